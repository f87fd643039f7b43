/- Contracts of functions, and what they rest on: law FnExactSteps. -/
import Derived.Test.YtkbdnmmnnkoenaaM17
set_option linter.unusedVariables false
set_option linter.unusedSimpArgs false
set_option maxRecDepth 10000
set_option maxHeartbeats 4000000
namespace Go.Proofs.VI
open Go
theorem law_ExactSteps (aM : GMach) (aN : Int) (ho_aM : GMach.ok aM) (ho_aN : -9223372036854775808 ≤ aN ∧ aN ≤ 9223372036854775807) : Con 6 [.agg (GMach.ro aM), .int .i64 aN] (.bool true) [none, none] := by
  refine con Try.func6 ?_
  refine ⟨[.ro, .ro], .int .i64 (szV 1048576 (GMach.bulk aM)), [none, none], sz_Mach aM 1048576 (by omega) (by omega) ho_aM, trivial, ?_⟩
  refine ⟨fun h => ⟨.refl _, trivial⟩, fun h => ?_⟩
  simp only [decide_eq_true_eq, decide_eq_false_iff_not] at h
  obtain ⟨e1, e1'⟩ := szV_nneg h
  have q_aM := GMach.fit_of aM (by omega)
  have m_aM := GMach.tw4 aM
  refine ⟨[.ro], .agg (GMach.ow aM), [none], to_Mach aM q_aM, trivial, ?_⟩
  refine ⟨[.ro, .ro], .int .i64 (stepsV aM aN), [none, none], by simp only [GInt.toRo_ows aM.mem fun x _ => GInt.toRo_ow x, GInt.toRo_ows aM.r fun x _ => GInt.toRo_ow x, GInt.toRo_ows aM.inp fun x _ => GInt.toRo_ow x, GInt.toRo_ows aM.out fun x _ => GInt.toRo_ow x]; exact spec_Steps aM aN q_aM, ⟨trivial, trivial⟩, ?_⟩
  try refine ⟨by kernel_rfl, ?_⟩
  refine ⟨[.ro], .agg (GMach.ow aM), [none], to_Mach aM q_aM, trivial, ?_⟩
  refine ⟨[.ro, .ro], .int .i64 (stepsV aM aN), [none, none], by simp only [GInt.toRo_ows aM.mem fun x _ => GInt.toRo_ow x, GInt.toRo_ows aM.r fun x _ => GInt.toRo_ow x, GInt.toRo_ows aM.inp fun x _ => GInt.toRo_ow x, GInt.toRo_ows aM.out fun x _ => GInt.toRo_ow x]; exact impl_Steps aM aN q_aM, ⟨trivial, trivial⟩, ?_⟩
  try refine ⟨by kernel_rfl, ?_⟩
  first | refine ⟨fun h => absurd rfl (of_decide_eq_true h), fun h => ?_⟩ | refine ⟨by kernel_rfl, fun h => absurd rfl (of_decide_eq_true h), fun h => ?_⟩
  refine ⟨[.ro], .agg (GMach.ow aM), [none], to_Mach aM q_aM, trivial, ?_⟩
  refine ⟨[.ro, .ro], .bool true, [none, none], by simp only [GInt.toRo_ows aM.mem fun x _ => GInt.toRo_ow x, GInt.toRo_ows aM.r fun x _ => GInt.toRo_ow x, GInt.toRo_ows aM.inp fun x _ => GInt.toRo_ow x, GInt.toRo_ows aM.out fun x _ => GInt.toRo_ow x]; exact eq_Mach aM q_aM, ⟨trivial, trivial⟩, ?_⟩
  first | refine ⟨fun h => Bool.noConfusion h, fun h => ?_⟩ | refine ⟨by kernel_rfl, fun h => Bool.noConfusion h, fun h => ?_⟩
  exact ⟨.refl _, trivial⟩
end Go.Proofs.VI
