/- For all arguments, FnExactBasesOf returns true, and leaves its arguments as they were; no further conditions. -/
import Derived.Test.YtbiiekgepalbpaaP3
import Derived.Test.YtbiiekgepalbpaaD6
import Derived.Test.YtbiiekgepalbpaaRows
import Derived.WalkKit
import Derived.ProofKit
import Derived.OpenShut
set_option linter.unusedVariables false
set_option linter.unusedSimpArgs false
set_option maxRecDepth 10000
namespace Go.Proofs.Ytbiiekgepalbpaa.fnExactBasesOf
open Go.ChangeShapes Go.WideShapes Go.ChangeAt Go.RowKit Go.Proofs.VI
theorem own : ownKnob Try.prog.godebug = none := by kernel_rfl
theorem contract (H : Type) (enc : TypeId × Value → H) (W : World) (base : Nat) (args : Array Value) (ds gs : List (DataW H)) (before : List MemPlace)
    (hval : ∀ (j : Nat) t v, Try.f7.params[j]? = some t → args[j]? = some v → Value.okWide Try.prog W .any base t v)
    (hW : DataW.Whole enc Try.prog Try.f7.params.toList Rows.fnExactBasesOfSpec.vars false W args.toList ds gs before) :
    Calls Try.prog 7 args W fun e W' => ∃ v, e = .returned v ∧ Rows.fnExactBasesOfSpec.post enc Try.prog Try.f7 false true false false W args v W' := by
  refine law_contract (S := [3, 4, 9, 23, 25, 38, 39, 95, 96, 98, 118, 206, 209]) (tb := 4) (ts := [38, 39, 3]) tok (by kernel_rfl) Try.func7 rfl (by kernel_rfl) rfl (by kernel_rfl) rfl (by decide) (by kernel_rfl) (by decide +kernel) ?_ rfl ?_ enc W base args ds gs before hval hW
  · intro avs h
    obtain ⟨v0, r0, rfl, g0, h0⟩ := args_cons rfl h
    obtain ⟨v1, r1, rfl, g1, h1⟩ := args_cons rfl h0
    obtain ⟨v2, r2, rfl, g2, h2⟩ := args_cons rfl h1
    obtain rfl : r2 = [] := h2
    obtain ⟨aL, rfl, l0, o0⟩ := hty_ObjS g0
    obtain ⟨aP, rfl, l1, o1⟩ := hty_PlacedS g1
    obtain ⟨aMod, rfl, o2⟩ := hty_int rfl rfl g2
    exact ⟨_, law_ExactBasesOf aL aP aMod l0 o0 l1 o1 (wf64 o2)⟩
  · intro ds hd
    match ds, hd with
    | [d0, d1, d2], _ => rfl
set_option maxRecDepth 100000 in
theorem lifted (os : Os) (started : os.Started) (H : Type) (enc : TypeId × Value → H) :
    ReturnsInHanded {} Try.checked os 7 .any (Rows.fnExactBasesOfSpec.pre6 enc Try.prog Try.f7 Rows.fnExactBasesOfRow.domain false) (Rows.fnExactBasesOfSpec.post enc Try.prog Try.f7 false true false false) := by
  refine returnsInHanded_of_change (C := Try.checked) own started (by kernel_rfl) Try.func7
    (ChangeSpec.witness6 (enc := enc) (C := Try.checked) false ⟨#[], #[.slice none 0 0, .slice none 0 0, .int .i64 0], []⟩ 8 (by kernel_rfl) (by kernel_rfl) (by kernel_rfl) (by kernel_rfl)) ?_
  intro W base args ds gs before hval hW _ _
  exact contract H enc W base args ds gs before hval hW
theorem over : Rows.fnExactBasesOfRow.holds Try.pinned (OpenSpec.ofChange Rows.fnExactBasesOfSpec) :=
  OpenClaim.holds_of_wide 7 Try.f7 rfl rfl rfl rfl rfl rfl rfl ⟨rfl, rfl, rfl, rfl, rfl⟩ rfl rfl rfl rfl rfl (by kernel_rfl) Try.func7 (by kernel_rfl)
    (of_decide_eq_true (by kernel_rfl)) (by unfold Func.isWrapper; first | (rw [if_pos (by decide +kernel)]; kernel_rfl) | (rw [if_neg (by decide +kernel)]; exact ⟨rfl, rfl⟩))
    (fun os started H enc _ => lifted os started H enc)
theorem proved : Rows.FnExactBasesOfSaid := over
end Go.Proofs.Ytbiiekgepalbpaa.fnExactBasesOf
