/- For all arguments, FnExactSubst returns true, and leaves its arguments as they were; no further conditions. -/
import Derived.Test.YtfhjbgicfchfkaaD5
import Derived.Test.YtfhjbgicfchfkaaD6
import Derived.Test.YtfhjbgicfchfkaaRows
import Derived.WalkKit
import Derived.ProofKit
import Derived.OpenShut
set_option linter.unusedVariables false
set_option linter.unusedSimpArgs false
set_option maxRecDepth 10000
namespace Go.Proofs.Ytfhjbgicfchfkaa.fnExactSubst
open Go.ChangeShapes Go.WideShapes Go.ChangeAt Go.RowKit Go.Proofs.VI
theorem own : ownKnob Try.prog.godebug = none := by kernel_rfl
theorem contract (H : Type) (enc : TypeId × Value → H) (W : World) (base : Nat) (args : Array Value) (ds gs : List (DataW H)) (before : List MemPlace)
    (hval : ∀ (j : Nat) t v, Try.f4.params[j]? = some t → args[j]? = some v → Value.okWide Try.prog W .any base t v)
    (hW : DataW.Whole enc Try.prog Try.f4.params.toList Rows.fnExactSubstSpec.vars false W args.toList ds gs before) :
    Calls Try.prog 4 args W fun e W' => ∃ v, e = .returned v ∧ Rows.fnExactSubstSpec.post enc Try.prog Try.f4 false true false false W args v W' := by
  refine law_contract (S := [3, 9, 22, 33, 34, 80]) (tb := 4) (ts := [22, 33, 34]) tok (by kernel_rfl) Try.func4 rfl (by kernel_rfl) rfl (by kernel_rfl) rfl (by decide) (by kernel_rfl) (by decide +kernel) ?_ rfl ?_ enc W base args ds gs before hval hW
  · intro avs h
    obtain ⟨v0, r0, rfl, g0, h0⟩ := args_cons rfl h
    obtain ⟨v1, r1, rfl, g1, h1⟩ := args_cons rfl h0
    obtain ⟨v2, r2, rfl, g2, h2⟩ := args_cons rfl h1
    obtain rfl : r2 = [] := h2
    obtain ⟨aL, rfl, l0, o0⟩ := hty_TokenS g0
    obtain ⟨aParams, rfl, l1, o1⟩ := hty_StringS g1
    obtain ⟨aArgs, rfl, l2, o2⟩ := hty_TokenSS g2
    exact ⟨_, law_ExactSubst aL aParams aArgs l0 o0 l1 o1 l2 o2⟩
  · intro ds hd
    match ds, hd with
    | [d0, d1, d2], _ => rfl
set_option maxRecDepth 100000 in
theorem lifted (os : Os) (started : os.Started) (H : Type) (enc : TypeId × Value → H) :
    ReturnsInHanded {} Try.checked os 4 .any (Rows.fnExactSubstSpec.pre6 enc Try.prog Try.f4 Rows.fnExactSubstRow.domain false) (Rows.fnExactSubstSpec.post enc Try.prog Try.f4 false true false false) := by
  refine returnsInHanded_of_change (C := Try.checked) own started (by kernel_rfl) Try.func4
    (ChangeSpec.witness6 (enc := enc) (C := Try.checked) false ⟨#[], #[.slice none 0 0, .slice none 0 0, .slice none 0 0], []⟩ 8 (by kernel_rfl) (by kernel_rfl) (by kernel_rfl) (by kernel_rfl)) ?_
  intro W base args ds gs before hval hW _ _
  exact contract H enc W base args ds gs before hval hW
theorem over : Rows.fnExactSubstRow.holds Try.pinned (OpenSpec.ofChange Rows.fnExactSubstSpec) :=
  OpenClaim.holds_of_wide 4 Try.f4 rfl rfl rfl rfl rfl rfl rfl ⟨rfl, rfl, rfl, rfl, rfl⟩ rfl rfl rfl rfl rfl (by kernel_rfl) Try.func4 (by kernel_rfl)
    (of_decide_eq_true (by kernel_rfl)) (by unfold Func.isWrapper; first | (rw [if_pos (by decide +kernel)]; kernel_rfl) | (rw [if_neg (by decide +kernel)]; exact ⟨rfl, rfl⟩))
    (fun os started H enc _ => lifted os started H enc)
theorem proved : Rows.FnExactSubstSaid := over
end Go.Proofs.Ytfhjbgicfchfkaa.fnExactSubst
