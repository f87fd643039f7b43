/- Contracts of functions, and what they rest on: law FnExactPutObj. -/
import Derived.Test.YtploddhapohdaaaG2
set_option linter.unusedVariables false
set_option linter.unusedSimpArgs false
set_option maxRecDepth 10000
set_option maxHeartbeats 4000000
namespace Go.Proofs.VI
open Go
theorem law_ExactPutObj (aO : GObj) (ho_aO : GObj.ok aO) : Con 3 [.agg (GObj.ro aO)] (.bool true) [none] := by
  refine con Try.func3 ?_
  refine ⟨[.ro, .ro], .int .i64 (szV 1048576 (GObj.bulk aO)), [none, none], sz_Obj aO 1048576 (by omega) (by omega) ho_aO, trivial, ?_⟩
  refine ⟨fun h => ⟨.refl _, trivial⟩, fun h => ?_⟩
  simp only [decide_eq_true_eq, decide_eq_false_iff_not] at h
  obtain ⟨e1, e1'⟩ := szV_nneg h
  have q_aO := GObj.fit_of aO (by omega)
  have m_aO := GObj.tw4 aO
  have hp := objB_len aO
  have hl := putObj_len aO
  have hR : (putObj aO).length ≤ 1099511627776 ∧ ∀ y ∈ putObj aO, GByte.fit y := ⟨by omega, fun _ _ => trivial⟩
  have hcR := cntB (putObj aO)
  refine ⟨[.ro], .agg (GObj.ow aO), [none], to_Obj aO q_aO, trivial, ?_⟩
  refine ⟨[.ro], .ow 1 (GByte.ows (putObj aO)), [none], by simp only [GSect.toRo_ows aO.sects fun x _ => GSect.toRo_ow x, GGlob.toRo_ows aO.globs fun x _ => GGlob.toRo_ow x]; exact spec_PutObj aO q_aO ho_aO (by omega), ⟨GByte.noRo_ows (putObj aO) fun x _ => GByte.noRo_ow x, trivial⟩, ?_⟩
  try refine ⟨by kernel_rfl, ?_⟩
  refine ⟨[.ro], .agg (GObj.ow aO), [none], to_Obj aO q_aO, trivial, ?_⟩
  refine ⟨[.ro], .ow 1 (GByte.ows (putObj aO)), [none], by simp only [GSect.toRo_ows aO.sects fun x _ => GSect.toRo_ow x, GGlob.toRo_ows aO.globs fun x _ => GGlob.toRo_ow x]; exact impl_PutObj aO q_aO ho_aO (by omega), ⟨GByte.noRo_ows (putObj aO) fun x _ => GByte.noRo_ow x, trivial⟩, ?_⟩
  try refine ⟨by kernel_rfl, ?_⟩
  refine ⟨[.ro, .ro], .bool true, [none, none], by simp only [GByte.toRo_ows (putObj aO) fun x _ => GByte.toRo_ow x]; exact eq_ByteS (putObj aO) hR.1 hR.2, ⟨trivial, trivial⟩, ?_⟩
  first | refine ⟨fun h => Bool.noConfusion h, fun h => ?_⟩ | refine ⟨by kernel_rfl, fun h => Bool.noConfusion h, fun h => ?_⟩
  refine ⟨[.ro], .agg (GObj.ow aO), [none], to_Obj aO q_aO, trivial, ?_⟩
  refine ⟨[.ro, .ro], .bool true, [none, none], by simp only [GSect.toRo_ows aO.sects fun x _ => GSect.toRo_ow x, GGlob.toRo_ows aO.globs fun x _ => GGlob.toRo_ow x]; exact eq_Obj aO q_aO, ⟨trivial, trivial⟩, ?_⟩
  first | refine ⟨fun h => Bool.noConfusion h, fun h => ?_⟩ | refine ⟨by kernel_rfl, fun h => Bool.noConfusion h, fun h => ?_⟩
  refine ⟨[.muta [3, 5], .ro], .int .i64 (1 + GObj.tw aO), [some (.agg (GObj.outs aO 1)), none], mark_Obj aO 1 (by omega) (by omega) q_aO, trivial, ?_⟩
  refine ⟨fun h => ?_, fun h => absurd (of_decide_eq_true h) (by omega)⟩
  refine ⟨[.ro, .ro], .bool true, [none, none], by simp only [GByte.toRo_ows (putObj aO) fun x _ => GByte.toRo_ow x]; exact eq_ByteS (putObj aO) hR.1 hR.2, ⟨trivial, trivial⟩, ?_⟩
  first | refine ⟨fun h => Bool.noConfusion h, fun h => ?_⟩ | refine ⟨by kernel_rfl, fun h => Bool.noConfusion h, fun h => ?_⟩
  refine ⟨[.muts 1, .ro], .int .i64 (1 + cntS GByte.w (putObj aO)), [some (.ow 1 (GByte.ows (markS GByte.mark GByte.w (putObj aO) 1))), none], mark_ByteS (putObj aO) 1 (by omega) (by omega) hR.1, trivial, ?_⟩
  refine ⟨[.ro, .ro], .int .i64 (1 + cntS GByte.w (putObj aO)), [none, none], by simp only [GByte.toRo_ows (markS GByte.mark GByte.w (putObj aO) 1) fun x _ => GByte.toRo_ow x]; exact held_ByteS (putObj aO) 1 (by omega) (by omega) hR.1, ⟨trivial, trivial⟩, ?_⟩
  first | refine ⟨fun h => absurd (of_decide_eq_true h) (by omega), fun h => ?_⟩ | refine ⟨by kernel_rfl, fun h => absurd (of_decide_eq_true h) (by omega), fun h => ?_⟩
  first | refine ⟨fun h => absurd rfl (of_decide_eq_true h), fun h => ?_⟩ | refine ⟨by kernel_rfl, fun h => absurd rfl (of_decide_eq_true h), fun h => ?_⟩
  refine ⟨[.ro], .agg (GObj.ow aO), [none], to_Obj aO q_aO, trivial, ?_⟩
  refine ⟨[.ro], .ow 1 (GByte.ows (putObj aO)), [none], by simp only [GSect.toRo_ows aO.sects fun x _ => GSect.toRo_ow x, GGlob.toRo_ows aO.globs fun x _ => GGlob.toRo_ow x]; exact impl_PutObj aO q_aO ho_aO (by omega), ⟨GByte.noRo_ows (putObj aO) fun x _ => GByte.noRo_ow x, trivial⟩, ?_⟩
  try refine ⟨by kernel_rfl, ?_⟩
  refine ⟨[.ro, .ro], .bool true, [none, none], by simp only [GByte.toRo_ows (putObj aO) fun x _ => GByte.toRo_ow x]; exact eq_ByteS (putObj aO) hR.1 hR.2, ⟨trivial, trivial⟩, ?_⟩
  first | refine ⟨fun h => Bool.noConfusion h, fun h => ?_⟩ | refine ⟨by kernel_rfl, fun h => Bool.noConfusion h, fun h => ?_⟩
  refine ⟨[.ro, .ro], .int .i64 (1 + cntS GByte.w (putObj aO)), [none, none], by simp only [GByte.toRo_ows (markS GByte.mark GByte.w (putObj aO) 1) fun x _ => GByte.toRo_ow x]; exact held_ByteS (putObj aO) 1 (by omega) (by omega) hR.1, ⟨trivial, trivial⟩, ?_⟩
  first | refine ⟨fun h => absurd (of_decide_eq_true h) (by omega), fun h => ?_⟩ | refine ⟨by kernel_rfl, fun h => absurd (of_decide_eq_true h) (by omega), fun h => ?_⟩
  first | refine ⟨fun h => absurd rfl (of_decide_eq_true h), fun h => ?_⟩ | refine ⟨by kernel_rfl, fun h => absurd rfl (of_decide_eq_true h), fun h => ?_⟩
  exact ⟨.refl _, trivial⟩
end Go.Proofs.VI
