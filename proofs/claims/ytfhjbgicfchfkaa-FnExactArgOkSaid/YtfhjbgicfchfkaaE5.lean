/- Contracts. -/
import Derived.Test.YtfhjbgicfchfkaaE4
set_option linter.unusedVariables false
set_option linter.unusedSimpArgs false
set_option maxRecDepth 10000
namespace Go.Proofs.VI
open Go
theorem law_ExactArgOk (aA : GArg) (ho_aA : GArg.ok aA) : Con 6 [.agg (GArg.ro aA)] (.bool true) [none] := by
  refine con Try.func6 ?_
  refine ⟨[.ro, .ro], .int .i64 (szV 1048576 (GArg.bulk aA)), [none, none], sz_Arg aA 1048576 (by omega) (by omega) ho_aA, trivial, ?_⟩
  refine ⟨fun h => ⟨.refl _, trivial⟩, fun h => ?_⟩
  simp only [decide_eq_true_eq, decide_eq_false_iff_not] at h
  obtain ⟨e1, e1'⟩ := szV_nneg h
  have q_aA := GArg.fit_of aA (by omega)
  refine ⟨[.ro], .agg (GArg.ow aA), [none], to_Arg aA q_aA, trivial, ?_⟩
  refine ⟨[.ro], .bool (argE aA), [none], by simp only [GExpr.toRo_ows aA.e.l fun x _ => GExpr.toRo_ow x]; exact spec_ArgOk aA q_aA ho_aA, ⟨trivial, trivial⟩, ?_⟩
  try refine ⟨rfl, ?_⟩
  refine ⟨[.ro], .agg (GArg.ow aA), [none], to_Arg aA q_aA, trivial, ?_⟩
  refine ⟨[.ro], .bool (argE aA), [none], by simp only [GExpr.toRo_ows aA.e.l fun x _ => GExpr.toRo_ow x]; exact impl_ArgOk aA q_aA ho_aA, ⟨trivial, trivial⟩, ?_⟩
  try refine ⟨rfl, ?_⟩
  refine ⟨fun h => absurd h (by simp), fun h => ?_⟩
  refine ⟨[.ro], .agg (GArg.ow aA), [none], to_Arg aA q_aA, trivial, ?_⟩
  refine ⟨[.ro, .ro], .bool true, [none, none], by simp only [GExpr.toRo_ows aA.e.l fun x _ => GExpr.toRo_ow x]; exact eq_Arg aA q_aA, ⟨trivial, trivial⟩, ?_⟩
  first | refine ⟨fun h => Bool.noConfusion h, fun h => ?_⟩ | refine ⟨rfl, fun h => Bool.noConfusion h, fun h => ?_⟩
  exact ⟨.refl _, trivial⟩
end Go.Proofs.VI
