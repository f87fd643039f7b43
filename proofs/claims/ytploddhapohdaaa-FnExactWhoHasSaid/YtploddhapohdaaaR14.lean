/- For all arguments, FnExactWhoHas returns true, and leaves its arguments as they were; no further conditions. -/
import Derived.Test.YtploddhapohdaaaP14
import Derived.Test.YtploddhapohdaaaD6
import Derived.Test.YtploddhapohdaaaRows
import Derived.WalkKit
import Derived.ProofKit
import Derived.OpenShut
set_option linter.unusedVariables false
set_option linter.unusedSimpArgs false
set_option maxRecDepth 10000
namespace Go.Proofs.Ytploddhapohdaaa.fnExactWhoHas
open Go.ChangeShapes Go.WideShapes Go.ChangeAt Go.RowKit Go.Proofs.VI
theorem own : ownKnob Try.prog.godebug = none := by kernel_rfl
theorem contract (H : Type) (enc : TypeId × Value → H) (W : World) (base : Nat) (args : Array Value) (ds gs : List (DataW H)) (before : List MemPlace)
    (hval : ∀ (j : Nat) t v, Try.f6.params[j]? = some t → args[j]? = some v → Value.okWide Try.prog W .any base t v)
    (hW : DataW.Whole enc Try.prog Try.f6.params.toList Rows.fnExactWhoHasSpec.vars false W args.toList ds gs before) :
    Calls Try.prog 6 args W fun e W' => ∃ v, e = .returned v ∧ Rows.fnExactWhoHasSpec.post enc Try.prog Try.f6 false true false false W args v W' := by
  refine law_contract (S := [5, 9, 27, 43, 45, 125]) (tb := 4) (ts := [45, 9]) tok (by kernel_rfl) Try.func6 rfl (by kernel_rfl) rfl (by kernel_rfl) rfl (by decide) (by kernel_rfl) (by decide +kernel) ?_ rfl ?_ enc W base args ds gs before hval hW
  · intro avs h
    obtain ⟨v0, r0, rfl, g0, h0⟩ := args_cons rfl h
    obtain ⟨v1, r1, rfl, g1, h1⟩ := args_cons rfl h0
    obtain rfl : r1 = [] := h1
    obtain ⟨aL, rfl, o0⟩ := hty_Lib g0
    obtain ⟨aGlob, rfl, o1⟩ := hty_str rfl rfl g1
    exact ⟨_, law_ExactWhoHas aL aGlob o0 o1⟩
  · intro ds hd
    match ds, hd with
    | [d0, d1], _ => rfl
set_option maxRecDepth 100000 in
theorem lifted (os : Os) (started : os.Started) (H : Type) (enc : TypeId × Value → H) :
    ReturnsInHanded {} Try.checked os 6 .any (Rows.fnExactWhoHasSpec.pre6 enc Try.prog Try.f6 Rows.fnExactWhoHasRow.domain false) (Rows.fnExactWhoHasSpec.post enc Try.prog Try.f6 false true false false) := by
  refine returnsInHanded_of_change (C := Try.checked) own started (by kernel_rfl) Try.func6
    (ChangeSpec.witness6 (enc := enc) (C := Try.checked) false ⟨#[], #[.agg #[.slice none 0 0], .string ⟨#[]⟩], []⟩ 8 (by kernel_rfl) (by kernel_rfl) (by kernel_rfl) (by kernel_rfl)) ?_
  intro W base args ds gs before hval hW _ _
  exact contract H enc W base args ds gs before hval hW
theorem over : Rows.fnExactWhoHasRow.holds Try.pinned (OpenSpec.ofChange Rows.fnExactWhoHasSpec) :=
  OpenClaim.holds_of_wide 6 Try.f6 rfl rfl rfl rfl rfl rfl rfl ⟨rfl, rfl, rfl, rfl, rfl⟩ rfl rfl rfl rfl rfl (by kernel_rfl) Try.func6 (by kernel_rfl)
    (of_decide_eq_true (by kernel_rfl)) (by unfold Func.isWrapper; first | (rw [if_pos (by decide +kernel)]; kernel_rfl) | (rw [if_neg (by decide +kernel)]; exact ⟨rfl, rfl⟩))
    (fun os started H enc _ => lifted os started H enc)
theorem proved : Rows.FnExactWhoHasSaid := over
end Go.Proofs.Ytploddhapohdaaa.fnExactWhoHas
