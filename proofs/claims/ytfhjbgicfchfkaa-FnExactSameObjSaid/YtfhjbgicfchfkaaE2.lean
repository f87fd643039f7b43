/- Contracts. -/
import Derived.Test.YtfhjbgicfchfkaaE1
set_option linter.unusedVariables false
set_option linter.unusedSimpArgs false
set_option maxRecDepth 10000
namespace Go.Proofs.VI
open Go
theorem law_ExactSameObj (aA : GObj) (aB : GObj) (ho_aA : GObj.ok aA) (ho_aB : GObj.ok aB) : Con 8 [.agg (GObj.ro aA), .agg (GObj.ro aB)] (.bool true) [none, none] := by
  refine con Try.func8 ?_
  refine ⟨[.ro, .ro], .int .i64 (szV 1048576 (GObj.bulk aA)), [none, none], sz_Obj aA 1048576 (by omega) (by omega) ho_aA, trivial, ?_⟩
  refine ⟨fun h => ⟨.refl _, trivial⟩, fun h => ?_⟩
  simp only [decide_eq_true_eq, decide_eq_false_iff_not] at h
  obtain ⟨e1, e1'⟩ := szV_nneg h
  refine ⟨[.ro, .ro], .int .i64 (szV (szV 1048576 (GObj.bulk aA)) (GObj.bulk aB)), [none, none], sz_Obj aB (szV 1048576 (GObj.bulk aA)) (by omega) (by omega) ho_aB, trivial, ?_⟩
  refine ⟨fun h => ⟨.refl _, trivial⟩, fun h => ?_⟩
  simp only [decide_eq_true_eq, decide_eq_false_iff_not] at h
  obtain ⟨e2, e2'⟩ := szV_nneg h
  have q_aA := GObj.fit_of aA (by omega)
  have q_aB := GObj.fit_of aB (by omega)
  refine ⟨[.ro], .agg (GObj.ow aA), [none], to_Obj aA q_aA, trivial, ?_⟩
  refine ⟨[.ro], .agg (GObj.ow aB), [none], to_Obj aB q_aB, trivial, ?_⟩
  refine ⟨[.ro, .ro], .bool (sameObj aA aB), [none, none], by simp only [GSect.toRo_ows aA.sects fun x _ => GSect.toRo_ow x, GGlob.toRo_ows aA.globs fun x _ => GGlob.toRo_ow x, GSect.toRo_ows aB.sects fun x _ => GSect.toRo_ow x, GGlob.toRo_ows aB.globs fun x _ => GGlob.toRo_ow x]; exact spec_SameObj aA aB q_aA q_aB, ⟨trivial, trivial⟩, ?_⟩
  try refine ⟨rfl, ?_⟩
  refine ⟨[.ro], .agg (GObj.ow aA), [none], to_Obj aA q_aA, trivial, ?_⟩
  refine ⟨[.ro], .agg (GObj.ow aB), [none], to_Obj aB q_aB, trivial, ?_⟩
  refine ⟨[.ro, .ro], .bool (sameObj aA aB), [none, none], by simp only [GSect.toRo_ows aA.sects fun x _ => GSect.toRo_ow x, GGlob.toRo_ows aA.globs fun x _ => GGlob.toRo_ow x, GSect.toRo_ows aB.sects fun x _ => GSect.toRo_ow x, GGlob.toRo_ows aB.globs fun x _ => GGlob.toRo_ow x]; exact impl_SameObj aA aB q_aA q_aB, ⟨trivial, trivial⟩, ?_⟩
  try refine ⟨rfl, ?_⟩
  refine ⟨fun h => absurd h (by simp), fun h => ?_⟩
  refine ⟨[.ro], .agg (GObj.ow aA), [none], to_Obj aA q_aA, trivial, ?_⟩
  refine ⟨[.ro, .ro], .bool true, [none, none], by simp only [GSect.toRo_ows aA.sects fun x _ => GSect.toRo_ow x, GGlob.toRo_ows aA.globs fun x _ => GGlob.toRo_ow x]; exact eq_Obj aA q_aA, ⟨trivial, trivial⟩, ?_⟩
  first | refine ⟨fun h => Bool.noConfusion h, fun h => ?_⟩ | refine ⟨rfl, fun h => Bool.noConfusion h, fun h => ?_⟩
  refine ⟨[.ro], .agg (GObj.ow aB), [none], to_Obj aB q_aB, trivial, ?_⟩
  refine ⟨[.ro, .ro], .bool true, [none, none], by simp only [GSect.toRo_ows aB.sects fun x _ => GSect.toRo_ow x, GGlob.toRo_ows aB.globs fun x _ => GGlob.toRo_ow x]; exact eq_Obj aB q_aB, ⟨trivial, trivial⟩, ?_⟩
  first | refine ⟨fun h => Bool.noConfusion h, fun h => ?_⟩ | refine ⟨rfl, fun h => Bool.noConfusion h, fun h => ?_⟩
  exact ⟨.refl _, trivial⟩
end Go.Proofs.VI
