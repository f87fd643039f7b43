/- For all arguments, FnSteps returns true, and leaves its arguments as they were; no further conditions. -/
import Derived.Test.YtkbdnmmnnkoenaaP22
import Derived.Test.YtkbdnmmnnkoenaaD6
import Derived.Test.YtkbdnmmnnkoenaaRows
import Derived.WalkKit
import Derived.ProofKit
import Derived.OpenShut
set_option linter.unusedVariables false
set_option linter.unusedSimpArgs false
set_option maxRecDepth 10000
namespace Go.Proofs.Ytkbdnmmnnkoenaa.fnSteps
open Go.ChangeShapes Go.WideShapes Go.ChangeAt Go.RowKit Go.Proofs.VI
theorem own : ownKnob Try.prog.godebug = none := by kernel_rfl
theorem contract (H : Type) (enc : TypeId × Value → H) (W : World) (base : Nat) (args : Array Value) (ds gs : List (DataW H)) (before : List MemPlace)
    (hval : ∀ (j : Nat) t v, Try.f9.params[j]? = some t → args[j]? = some v → Value.okWide Try.prog W .any base t v)
    (hW : DataW.Whole enc Try.prog Try.f9.params.toList Rows.fnStepsSpec.vars false W args.toList ds gs before) :
    Calls Try.prog 9 args W fun e W' => ∃ v, e = .returned v ∧ Rows.fnStepsSpec.post enc Try.prog Try.f9 false true false false W args v W' := by
  refine law_contract (S := [5, 22]) (tb := 4) (ts := [22]) tok (by kernel_rfl) Try.func9 rfl (by kernel_rfl) rfl (by kernel_rfl) rfl (by decide) (by kernel_rfl) (by decide +kernel) ?_ rfl ?_ enc W base args ds gs before hval hW
  · intro avs h
    obtain ⟨v0, r0, rfl, g0, h0⟩ := args_cons rfl h
    obtain rfl : r0 = [] := h0
    obtain ⟨code, rfl, l0, o0⟩ := hty_ByteS g0
    exact ⟨_, law_Steps code l0 o0⟩
  · intro ds hd
    match ds, hd with
    | [d0], _ => rfl
set_option maxRecDepth 100000 in
theorem lifted (os : Os) (started : os.Started) (H : Type) (enc : TypeId × Value → H) :
    ReturnsInHanded {} Try.checked os 9 .any (Rows.fnStepsSpec.pre6 enc Try.prog Try.f9 Rows.fnStepsRow.domain false) (Rows.fnStepsSpec.post enc Try.prog Try.f9 false true false false) := by
  refine returnsInHanded_of_change (C := Try.checked) own started (by kernel_rfl) Try.func9
    (ChangeSpec.witness6 (enc := enc) (C := Try.checked) false ⟨#[], #[.slice none 0 0], []⟩ 8 (by kernel_rfl) (by kernel_rfl) (by kernel_rfl) (by kernel_rfl)) ?_
  intro W base args ds gs before hval hW _ _
  exact contract H enc W base args ds gs before hval hW
theorem over : Rows.fnStepsRow.holds Try.pinned (OpenSpec.ofChange Rows.fnStepsSpec) :=
  OpenClaim.holds_of_wide 9 Try.f9 rfl rfl rfl rfl rfl rfl rfl ⟨rfl, rfl, rfl, rfl, rfl⟩ rfl rfl rfl rfl rfl (by kernel_rfl) Try.func9 (by kernel_rfl)
    (of_decide_eq_true (by kernel_rfl)) (by unfold Func.isWrapper; first | (rw [if_pos (by decide +kernel)]; kernel_rfl) | (rw [if_neg (by decide +kernel)]; exact ⟨rfl, rfl⟩))
    (fun os started H enc _ => lifted os started H enc)
theorem proved : Rows.FnStepsSaid := over
end Go.Proofs.Ytkbdnmmnnkoenaa.fnSteps
