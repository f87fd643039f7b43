/- Contracts of functions, and what they rest on: law FnExactObjOk. -/
import Derived.Test.YtbiiekgepalbpaaF6
set_option linter.unusedVariables false
set_option linter.unusedSimpArgs false
set_option maxRecDepth 10000
set_option maxHeartbeats 4000000
namespace Go.Proofs.VI
open Go
theorem law_ExactObjOk (aO : GObj) (ho_aO : GObj.ok aO) : Con 14 [.agg (GObj.ro aO)] (.bool true) [none] := by
  refine con Try.func14 ?_
  refine ⟨[.ro, .ro], .int .i64 (szV 1048576 (GObj.bulk aO)), [none, none], sz_Obj aO 1048576 (by omega) (by omega) ho_aO, trivial, ?_⟩
  refine ⟨fun h => ⟨.refl _, trivial⟩, fun h => ?_⟩
  simp only [decide_eq_true_eq, decide_eq_false_iff_not] at h
  obtain ⟨e1, e1'⟩ := szV_nneg h
  have q_aO := GObj.fit_of aO (by omega)
  have m_aO := GObj.tw4 aO
  refine ⟨[.ro], .agg (GObj.ow aO), [none], to_Obj aO q_aO, trivial, ?_⟩
  refine ⟨[.ro], .bool (objE aO), [none], by simp only [GSect.toRo_ows aO.sects fun x _ => GSect.toRo_ow x, GGlob.toRo_ows aO.globs fun x _ => GGlob.toRo_ow x]; exact spec_ObjOk aO q_aO ho_aO, ⟨trivial, trivial⟩, ?_⟩
  try refine ⟨by kernel_rfl, ?_⟩
  refine ⟨[.ro], .agg (GObj.ow aO), [none], to_Obj aO q_aO, trivial, ?_⟩
  refine ⟨[.ro], .bool (objE aO), [none], by simp only [GSect.toRo_ows aO.sects fun x _ => GSect.toRo_ow x, GGlob.toRo_ows aO.globs fun x _ => GGlob.toRo_ow x]; exact impl_ObjOk aO q_aO ho_aO, ⟨trivial, trivial⟩, ?_⟩
  try refine ⟨by kernel_rfl, ?_⟩
  first | refine ⟨fun h => absurd h (by simp), fun h => ?_⟩ | refine ⟨by kernel_rfl, fun h => absurd h (by simp), fun h => ?_⟩
  refine ⟨[.ro], .agg (GObj.ow aO), [none], to_Obj aO q_aO, trivial, ?_⟩
  refine ⟨[.ro, .ro], .bool true, [none, none], by simp only [GSect.toRo_ows aO.sects fun x _ => GSect.toRo_ow x, GGlob.toRo_ows aO.globs fun x _ => GGlob.toRo_ow x]; exact eq_Obj aO q_aO, ⟨trivial, trivial⟩, ?_⟩
  first | refine ⟨fun h => Bool.noConfusion h, fun h => ?_⟩ | refine ⟨by kernel_rfl, fun h => Bool.noConfusion h, fun h => ?_⟩
  exact ⟨.refl _, trivial⟩
end Go.Proofs.VI
