/- For all arguments, FnExactLibPut returns true, and leaves its arguments as they were; no further conditions. -/
import Derived.Test.YtjlonhiojgljcaaGreatP28
import Derived.Test.YtjlonhiojgljcaaGreatD6
import Derived.Test.YtjlonhiojgljcaaGreatRows
import Derived.WalkKit
import Derived.ProofKit
import Derived.OpenShut
set_option linter.unusedVariables false
set_option linter.unusedSimpArgs false
set_option maxRecDepth 10000
namespace Go.Proofs.YtjlonhiojgljcaaGreat.fnExactLibPut
open Go.ChangeShapes Go.WideShapes Go.ChangeAt Go.RowKit Go.Proofs.VI
theorem own : ownKnob Tryz.prog.godebug = none := by kernel_rfl
theorem contract (H : Type) (enc : TypeId × Value → H) (W : World) (base : Nat) (args : Array Value) (ds gs : List (DataW H)) (before : List MemPlace)
    (hval : ∀ (j : Nat) t v, Tryz.f8.params[j]? = some t → args[j]? = some v → Value.okWide Tryz.prog W .any base t v)
    (hW : DataW.Whole enc Tryz.prog Tryz.f8.params.toList Rows.fnExactLibPutSpec.vars false W args.toList ds gs before) :
    Calls Tryz.prog 8 args W fun e W' => ∃ v, e = .returned v ∧ Rows.fnExactLibPutSpec.post enc Tryz.prog Tryz.f8 false true false false W args v W' := by
  refine law_contract (S := [3, 4, 5, 9, 22, 24, 54, 55, 57, 74, 181, 194, 196, 199, 201]) (tb := 4) (ts := [24, 9, 57]) tok (by kernel_rfl) Tryz.func8 rfl (by kernel_rfl) rfl (by kernel_rfl) rfl (by decide) (by kernel_rfl) (by decide +kernel) ?_ rfl ?_ enc W base args ds gs before hval hW
  · intro avs h
    obtain ⟨v0, r0, rfl, g0, h0⟩ := args_cons rfl h
    obtain ⟨v1, r1, rfl, g1, h1⟩ := args_cons rfl h0
    obtain ⟨v2, r2, rfl, g2, h2⟩ := args_cons rfl h1
    obtain rfl : r2 = [] := h2
    obtain ⟨aL, rfl, o0⟩ := hty_Lib g0
    obtain ⟨aName, rfl, o1⟩ := hty_str rfl rfl g1
    obtain ⟨aO, rfl, o2⟩ := hty_Obj g2
    exact ⟨_, law_ExactLibPut aL aName aO o0 o1 o2⟩
  · intro ds hd
    match ds, hd with
    | [d0, d1, d2], _ => rfl
set_option maxRecDepth 100000 in
theorem lifted (os : Os) (started : os.Started) (H : Type) (enc : TypeId × Value → H) :
    ReturnsInHanded {} Tryz.checked os 8 .any (Rows.fnExactLibPutSpec.pre6 enc Tryz.prog Tryz.f8 Rows.fnExactLibPutRow.domain false) (Rows.fnExactLibPutSpec.post enc Tryz.prog Tryz.f8 false true false false) := by
  refine returnsInHanded_of_change (C := Tryz.checked) own started (by kernel_rfl) Tryz.func8
    (ChangeSpec.witness6 (enc := enc) (C := Tryz.checked) false ⟨#[], #[.agg #[.slice none 0 0], .string ⟨#[]⟩, .agg #[.slice none 0 0, .slice none 0 0]], []⟩ 8 (by kernel_rfl) (by kernel_rfl) (by kernel_rfl) (by kernel_rfl)) ?_
  intro W base args ds gs before hval hW _ _
  exact contract H enc W base args ds gs before hval hW
set_option maxHeartbeats 4000000 in
theorem closed : joinedFacts Tryz.pinned.checked.prog 8 Tryz.f8 Rows.fnExactLibPutSpec Rows.fnExactLibPutRow = true := by
  unfold joinedFacts
  simp only [Bool.and_eq_true]
  repeat' apply And.intro
  all_goals (as_aux_lemma => kernel_rfl)
theorem over : Rows.fnExactLibPutRow.holds Tryz.pinned (OpenSpec.ofChange Rows.fnExactLibPutSpec) :=
  OpenClaim.holds_of_wide 8 Tryz.f8 rfl rfl rfl rfl rfl rfl rfl ⟨rfl, rfl, rfl, rfl, rfl⟩ rfl rfl rfl rfl rfl (by kernel_rfl) Tryz.func8 closed
    (of_decide_eq_true (by kernel_rfl)) (by unfold Func.isWrapper; first | (rw [if_pos (by decide +kernel)]; kernel_rfl) | (rw [if_neg (by decide +kernel)]; exact ⟨rfl, rfl⟩))
    (fun os started H enc _ => lifted os started H enc)
theorem proved : Rows.FnExactLibPutSaid := over
end Go.Proofs.YtjlonhiojgljcaaGreat.fnExactLibPut
