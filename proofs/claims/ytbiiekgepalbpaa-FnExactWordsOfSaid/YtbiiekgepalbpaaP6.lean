/- Contracts of functions, and what they rest on: law FnExactWordsOf. -/
import Derived.Test.YtbiiekgepalbpaaF4
set_option linter.unusedVariables false
set_option linter.unusedSimpArgs false
set_option maxRecDepth 10000
set_option maxHeartbeats 4000000
namespace Go.Proofs.VI
open Go
theorem law_ExactWordsOf (aX : GLine) (ho_aX : GLine.ok aX) : Con 13 [.agg (GLine.ro aX)] (.bool true) [none] := by
  refine con Try.func13 ?_
  refine ⟨[.ro, .ro], .int .i64 (szV 1048576 (GLine.bulk aX)), [none, none], sz_Line aX 1048576 (by omega) (by omega) ho_aX, trivial, ?_⟩
  refine ⟨fun h => ⟨.refl _, trivial⟩, fun h => ?_⟩
  simp only [decide_eq_true_eq, decide_eq_false_iff_not] at h
  obtain ⟨e1, e1'⟩ := szV_nneg h
  have q_aX := GLine.fit_of aX (by omega)
  refine ⟨[.ro], .agg (GLine.ow aX), [none], to_Line aX q_aX, trivial, ?_⟩
  refine ⟨[.ro], .int .i64 (wordsOf aX), [none], by simp only [GExpr.toRo_ows aX.src.e.l fun x _ => GExpr.toRo_ow x, GExpr.toRo_ows aX.dst.e.l fun x _ => GExpr.toRo_ow x, GExpr.toRo_ows aX.l fun x _ => GExpr.toRo_ow x]; exact spec_WordsOf aX q_aX ho_aX, ⟨trivial, trivial⟩, ?_⟩
  try refine ⟨by kernel_rfl, ?_⟩
  refine ⟨[.ro], .agg (GLine.ow aX), [none], to_Line aX q_aX, trivial, ?_⟩
  refine ⟨[.ro], .int .i64 (wordsOf aX), [none], by simp only [GExpr.toRo_ows aX.src.e.l fun x _ => GExpr.toRo_ow x, GExpr.toRo_ows aX.dst.e.l fun x _ => GExpr.toRo_ow x, GExpr.toRo_ows aX.l fun x _ => GExpr.toRo_ow x]; exact impl_WordsOf aX q_aX ho_aX, ⟨trivial, trivial⟩, ?_⟩
  try refine ⟨by kernel_rfl, ?_⟩
  first | refine ⟨fun h => absurd rfl (of_decide_eq_true h), fun h => ?_⟩ | refine ⟨by kernel_rfl, fun h => absurd rfl (of_decide_eq_true h), fun h => ?_⟩
  refine ⟨[.ro], .agg (GLine.ow aX), [none], to_Line aX q_aX, trivial, ?_⟩
  refine ⟨[.ro, .ro], .bool true, [none, none], by simp only [GExpr.toRo_ows aX.src.e.l fun x _ => GExpr.toRo_ow x, GExpr.toRo_ows aX.dst.e.l fun x _ => GExpr.toRo_ow x, GExpr.toRo_ows aX.l fun x _ => GExpr.toRo_ow x]; exact eq_Line aX q_aX, ⟨trivial, trivial⟩, ?_⟩
  first | refine ⟨fun h => Bool.noConfusion h, fun h => ?_⟩ | refine ⟨by kernel_rfl, fun h => Bool.noConfusion h, fun h => ?_⟩
  exact ⟨.refl _, trivial⟩
end Go.Proofs.VI
