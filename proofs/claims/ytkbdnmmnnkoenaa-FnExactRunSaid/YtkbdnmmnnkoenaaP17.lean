/- Contracts of functions, and what they rest on: law FnExactRun. -/
import Derived.Test.YtkbdnmmnnkoenaaM17
set_option linter.unusedVariables false
set_option linter.unusedSimpArgs false
set_option maxRecDepth 10000
set_option maxHeartbeats 4000000
namespace Go.Proofs.VI
open Go
theorem law_ExactRun (aM : GMach) (aN : Int) (ho_aM : GMach.ok aM) (ho_aN : -9223372036854775808 ≤ aN ∧ aN ≤ 9223372036854775807) : Con 8 [.agg (GMach.ro aM), .int .i64 aN] (.bool true) [none, none] := by
  refine con Try.func8 ?_
  refine ⟨[.ro, .ro], .int .i64 (szV 1048576 (GMach.bulk aM)), [none, none], sz_Mach aM 1048576 (by omega) (by omega) ho_aM, trivial, ?_⟩
  refine ⟨fun h => ⟨.refl _, trivial⟩, fun h => ?_⟩
  simp only [decide_eq_true_eq, decide_eq_false_iff_not] at h
  obtain ⟨e1, e1'⟩ := szV_nneg h
  have q_aM := GMach.fit_of aM (by omega)
  have m_aM := GMach.tw4 aM
  have hR := runV_fit aM aN q_aM
  have hcR := runV_w aM aN
  refine ⟨[.ro], .agg (GMach.ow aM), [none], to_Mach aM q_aM, trivial, ?_⟩
  refine ⟨[.ro, .ro], .agg (GMach.ow (runV aM aN)), [none, none], by simp only [GInt.toRo_ows aM.mem fun x _ => GInt.toRo_ow x, GInt.toRo_ows aM.r fun x _ => GInt.toRo_ow x, GInt.toRo_ows aM.inp fun x _ => GInt.toRo_ow x, GInt.toRo_ows aM.out fun x _ => GInt.toRo_ow x]; exact spec_Run aM aN q_aM, ⟨GMach.noRo_ow (runV aM aN), trivial⟩, ?_⟩
  try refine ⟨by kernel_rfl, ?_⟩
  refine ⟨[.ro], .agg (GMach.ow aM), [none], to_Mach aM q_aM, trivial, ?_⟩
  refine ⟨[.ro, .ro], .agg (GMach.ow (runV aM aN)), [none, none], by simp only [GInt.toRo_ows aM.mem fun x _ => GInt.toRo_ow x, GInt.toRo_ows aM.r fun x _ => GInt.toRo_ow x, GInt.toRo_ows aM.inp fun x _ => GInt.toRo_ow x, GInt.toRo_ows aM.out fun x _ => GInt.toRo_ow x]; exact impl_Run aM aN q_aM, ⟨GMach.noRo_ow (runV aM aN), trivial⟩, ?_⟩
  try refine ⟨by kernel_rfl, ?_⟩
  refine ⟨[.ro, .ro], .bool true, [none, none], by simp only [GInt.toRo_ows ((runV aM aN).mem) fun x _ => GInt.toRo_ow x, GInt.toRo_ows ((runV aM aN).r) fun x _ => GInt.toRo_ow x, GInt.toRo_ows ((runV aM aN).inp) fun x _ => GInt.toRo_ow x, GInt.toRo_ows ((runV aM aN).out) fun x _ => GInt.toRo_ow x]; exact eq_Mach (runV aM aN) hR, ⟨trivial, trivial⟩, ?_⟩
  first | refine ⟨fun h => Bool.noConfusion h, fun h => ?_⟩ | refine ⟨by kernel_rfl, fun h => Bool.noConfusion h, fun h => ?_⟩
  refine ⟨[.ro], .agg (GMach.ow aM), [none], to_Mach aM q_aM, trivial, ?_⟩
  refine ⟨[.ro, .ro], .bool true, [none, none], by simp only [GInt.toRo_ows aM.mem fun x _ => GInt.toRo_ow x, GInt.toRo_ows aM.r fun x _ => GInt.toRo_ow x, GInt.toRo_ows aM.inp fun x _ => GInt.toRo_ow x, GInt.toRo_ows aM.out fun x _ => GInt.toRo_ow x]; exact eq_Mach aM q_aM, ⟨trivial, trivial⟩, ?_⟩
  first | refine ⟨fun h => Bool.noConfusion h, fun h => ?_⟩ | refine ⟨by kernel_rfl, fun h => Bool.noConfusion h, fun h => ?_⟩
  refine ⟨[.muta [1, 1, 0, 0, 0, 0, 1, 1, 0], .ro], .int .i64 (1 + GMach.tw aM), [some (.agg (GMach.outs aM 1)), none], mark_Mach aM 1 (by omega) (by omega) q_aM, trivial, ?_⟩
  refine ⟨fun h => ?_, fun h => absurd (of_decide_eq_true h) (by omega)⟩
  refine ⟨[.ro, .ro], .bool true, [none, none], by simp only [GInt.toRo_ows ((runV aM aN).mem) fun x _ => GInt.toRo_ow x, GInt.toRo_ows ((runV aM aN).r) fun x _ => GInt.toRo_ow x, GInt.toRo_ows ((runV aM aN).inp) fun x _ => GInt.toRo_ow x, GInt.toRo_ows ((runV aM aN).out) fun x _ => GInt.toRo_ow x]; exact eq_Mach (runV aM aN) hR, ⟨trivial, trivial⟩, ?_⟩
  first | refine ⟨fun h => Bool.noConfusion h, fun h => ?_⟩ | refine ⟨by kernel_rfl, fun h => Bool.noConfusion h, fun h => ?_⟩
  refine ⟨[.muta [1, 1, 0, 0, 0, 0, 1, 1, 0], .ro], .int .i64 (1 + GMach.tw (runV aM aN)), [some (.agg (GMach.outs (runV aM aN) 1)), none], mark_Mach (runV aM aN) 1 (by omega) (by omega) hR, trivial, ?_⟩
  refine ⟨[.ro, .ro], .int .i64 (1 + GMach.tw (runV aM aN)), [none, none], held_Mach (runV aM aN) 1 (by omega) (by omega) hR, ⟨trivial, trivial⟩, ?_⟩
  first | refine ⟨fun h => absurd (of_decide_eq_true h) (by omega), fun h => ?_⟩ | refine ⟨by kernel_rfl, fun h => absurd (of_decide_eq_true h) (by omega), fun h => ?_⟩
  first | refine ⟨fun h => absurd rfl (of_decide_eq_true h), fun h => ?_⟩ | refine ⟨by kernel_rfl, fun h => absurd rfl (of_decide_eq_true h), fun h => ?_⟩
  refine ⟨[.ro], .agg (GMach.ow aM), [none], to_Mach aM q_aM, trivial, ?_⟩
  refine ⟨[.ro, .ro], .agg (GMach.ow (runV aM aN)), [none, none], by simp only [GInt.toRo_ows aM.mem fun x _ => GInt.toRo_ow x, GInt.toRo_ows aM.r fun x _ => GInt.toRo_ow x, GInt.toRo_ows aM.inp fun x _ => GInt.toRo_ow x, GInt.toRo_ows aM.out fun x _ => GInt.toRo_ow x]; exact impl_Run aM aN q_aM, ⟨GMach.noRo_ow (runV aM aN), trivial⟩, ?_⟩
  try refine ⟨by kernel_rfl, ?_⟩
  refine ⟨[.ro, .ro], .bool true, [none, none], by simp only [GInt.toRo_ows ((runV aM aN).mem) fun x _ => GInt.toRo_ow x, GInt.toRo_ows ((runV aM aN).r) fun x _ => GInt.toRo_ow x, GInt.toRo_ows ((runV aM aN).inp) fun x _ => GInt.toRo_ow x, GInt.toRo_ows ((runV aM aN).out) fun x _ => GInt.toRo_ow x]; exact eq_Mach (runV aM aN) hR, ⟨trivial, trivial⟩, ?_⟩
  first | refine ⟨fun h => Bool.noConfusion h, fun h => ?_⟩ | refine ⟨by kernel_rfl, fun h => Bool.noConfusion h, fun h => ?_⟩
  refine ⟨[.ro, .ro], .int .i64 (1 + GMach.tw (runV aM aN)), [none, none], held_Mach (runV aM aN) 1 (by omega) (by omega) hR, ⟨trivial, trivial⟩, ?_⟩
  first | refine ⟨fun h => absurd (of_decide_eq_true h) (by omega), fun h => ?_⟩ | refine ⟨by kernel_rfl, fun h => absurd (of_decide_eq_true h) (by omega), fun h => ?_⟩
  first | refine ⟨fun h => absurd rfl (of_decide_eq_true h), fun h => ?_⟩ | refine ⟨by kernel_rfl, fun h => absurd rfl (of_decide_eq_true h), fun h => ?_⟩
  exact ⟨.refl _, trivial⟩
end Go.Proofs.VI
