/- Contracts of functions, and what they rest on: law FnExactLinkOne. -/
import Derived.Test.YtjlonhiojgljcaaGreatO6
set_option linter.unusedVariables false
set_option linter.unusedSimpArgs false
set_option maxRecDepth 10000
set_option maxHeartbeats 4000000
namespace Go.Proofs.VI
open Go
theorem law_ExactLinkOne (aO : GObj) (aAt : Int) (ho_aO : GObj.ok aO) (ho_aAt : -9223372036854775808 ≤ aAt ∧ aAt ≤ 9223372036854775807) : Con 6 [.agg (GObj.ro aO), .int .i64 aAt] (.bool true) [none, none] := by
  refine con Tryz.func6 ?_
  refine ⟨[.ro, .ro], .int .i64 (szV 1048576 (GObj.bulk aO)), [none, none], sz_Obj aO 1048576 (by omega) (by omega) ho_aO, trivial, ?_⟩
  refine ⟨fun h => ⟨.refl _, trivial⟩, fun h => ?_⟩
  simp only [decide_eq_true_eq, decide_eq_false_iff_not] at h
  obtain ⟨e1, e1'⟩ := szV_nneg h
  have q_aO := GObj.fit_of aO (by omega)
  have m_aO := GObj.tw4 aO
  have hS := one_bulk aO
  have hl9 := linkV_len [aO] aAt
  have hR : (linkV [aO] aAt).1.length ≤ 1099511627776 ∧ ∀ y ∈ (linkV [aO] aAt).1, GInt.fit y := ⟨by omega, fun _ _ => trivial⟩
  have hcR := cntI (linkV [aO] aAt).1
  refine ⟨[.ro], .agg (GObj.ow aO), [none], to_Obj aO q_aO, trivial, ?_⟩
  refine ⟨[.ro, .ro], .tup [.ow 1 (GInt.ows ((linkV [aO] aAt).1)), .int .i64 ((linkV [aO] aAt).2)], [none, none], by simp only [GSect.toRo_ows aO.sects fun x _ => GSect.toRo_ow x, GGlob.toRo_ows aO.globs fun x _ => GGlob.toRo_ow x]; exact spec_LinkOne aO aAt q_aO ho_aO (by omega) (by omega) (by omega) (by omega), ⟨⟨GInt.noRo_ows ((linkV [aO] aAt).1) fun x _ => GInt.noRo_ow x, trivial, trivial⟩, trivial⟩, ?_⟩
  try refine ⟨by kernel_rfl, ?_⟩
  refine ⟨[.ro], .agg (GObj.ow aO), [none], to_Obj aO q_aO, trivial, ?_⟩
  refine ⟨[.ro, .ro], .tup [.ow 1 (GInt.ows ((linkV [aO] aAt).1)), .int .i64 ((linkV [aO] aAt).2)], [none, none], by simp only [GSect.toRo_ows aO.sects fun x _ => GSect.toRo_ow x, GGlob.toRo_ows aO.globs fun x _ => GGlob.toRo_ow x]; exact impl_LinkOne aO aAt q_aO ho_aO (by omega) (by omega) (by omega) (by omega), ⟨⟨GInt.noRo_ows ((linkV [aO] aAt).1) fun x _ => GInt.noRo_ow x, trivial, trivial⟩, trivial⟩, ?_⟩
  try refine ⟨by kernel_rfl, ?_⟩
  refine ⟨[.ro, .ro], .bool true, [none, none], by simp only [GInt.toRo_ows ((linkV [aO] aAt).1) fun x _ => GInt.toRo_ow x]; exact eq_IntS ((linkV [aO] aAt).1) hR.1 hR.2, ⟨trivial, trivial⟩, ?_⟩
  refine ⟨fun h => ?_, fun h => Bool.noConfusion h⟩
  first | refine ⟨fun h => absurd rfl (of_decide_eq_true h), fun h => ?_⟩ | refine ⟨by kernel_rfl, fun h => absurd rfl (of_decide_eq_true h), fun h => ?_⟩
  refine ⟨[.ro], .agg (GObj.ow aO), [none], to_Obj aO q_aO, trivial, ?_⟩
  refine ⟨[.ro, .ro], .bool true, [none, none], by simp only [GSect.toRo_ows aO.sects fun x _ => GSect.toRo_ow x, GGlob.toRo_ows aO.globs fun x _ => GGlob.toRo_ow x]; exact eq_Obj aO q_aO, ⟨trivial, trivial⟩, ?_⟩
  first | refine ⟨fun h => Bool.noConfusion h, fun h => ?_⟩ | refine ⟨by kernel_rfl, fun h => Bool.noConfusion h, fun h => ?_⟩
  refine ⟨[.muta [3, 5], .ro], .int .i64 (1 + GObj.tw aO), [some (.agg (GObj.outs aO 1)), none], mark_Obj aO 1 (by omega) (by omega) q_aO, trivial, ?_⟩
  refine ⟨fun h => ?_, fun h => absurd (of_decide_eq_true h) (by omega)⟩
  refine ⟨[.ro, .ro], .bool true, [none, none], by simp only [GInt.toRo_ows ((linkV [aO] aAt).1) fun x _ => GInt.toRo_ow x]; exact eq_IntS ((linkV [aO] aAt).1) hR.1 hR.2, ⟨trivial, trivial⟩, ?_⟩
  refine ⟨fun h => ?_, fun h => Bool.noConfusion h⟩
  first | refine ⟨fun h => absurd rfl (of_decide_eq_true h), fun h => ?_⟩ | refine ⟨by kernel_rfl, fun h => absurd rfl (of_decide_eq_true h), fun h => ?_⟩
  refine ⟨[.muts 1, .ro], .int .i64 (1 + cntS GInt.w ((linkV [aO] aAt).1)), [some (.ow 1 (GInt.ows (markS GInt.mark GInt.w ((linkV [aO] aAt).1) 1))), none], mark_IntS ((linkV [aO] aAt).1) 1 (by omega) (by omega) hR.1, trivial, ?_⟩
  refine ⟨[.ro, .ro], .int .i64 (1 + cntS GInt.w ((linkV [aO] aAt).1)), [none, none], by simp only [GInt.toRo_ows (markS GInt.mark GInt.w ((linkV [aO] aAt).1) 1) fun x _ => GInt.toRo_ow x]; exact held_IntS ((linkV [aO] aAt).1) 1 (by omega) (by omega) hR.1, ⟨trivial, trivial⟩, ?_⟩
  first | refine ⟨fun h => absurd (of_decide_eq_true h) (by omega), fun h => ?_⟩ | refine ⟨by kernel_rfl, fun h => absurd (of_decide_eq_true h) (by omega), fun h => ?_⟩
  first | refine ⟨fun h => absurd rfl (of_decide_eq_true h), fun h => ?_⟩ | refine ⟨by kernel_rfl, fun h => absurd rfl (of_decide_eq_true h), fun h => ?_⟩
  refine ⟨[.ro], .agg (GObj.ow aO), [none], to_Obj aO q_aO, trivial, ?_⟩
  refine ⟨[.ro, .ro], .tup [.ow 1 (GInt.ows ((linkV [aO] aAt).1)), .int .i64 ((linkV [aO] aAt).2)], [none, none], by simp only [GSect.toRo_ows aO.sects fun x _ => GSect.toRo_ow x, GGlob.toRo_ows aO.globs fun x _ => GGlob.toRo_ow x]; exact impl_LinkOne aO aAt q_aO ho_aO (by omega) (by omega) (by omega) (by omega), ⟨⟨GInt.noRo_ows ((linkV [aO] aAt).1) fun x _ => GInt.noRo_ow x, trivial, trivial⟩, trivial⟩, ?_⟩
  try refine ⟨by kernel_rfl, ?_⟩
  refine ⟨[.ro, .ro], .bool true, [none, none], by simp only [GInt.toRo_ows ((linkV [aO] aAt).1) fun x _ => GInt.toRo_ow x]; exact eq_IntS ((linkV [aO] aAt).1) hR.1 hR.2, ⟨trivial, trivial⟩, ?_⟩
  refine ⟨fun h => ?_, fun h => Bool.noConfusion h⟩
  first | refine ⟨fun h => absurd rfl (of_decide_eq_true h), fun h => ?_⟩ | refine ⟨by kernel_rfl, fun h => absurd rfl (of_decide_eq_true h), fun h => ?_⟩
  refine ⟨[.ro, .ro], .int .i64 (1 + cntS GInt.w ((linkV [aO] aAt).1)), [none, none], by simp only [GInt.toRo_ows (markS GInt.mark GInt.w ((linkV [aO] aAt).1) 1) fun x _ => GInt.toRo_ow x]; exact held_IntS ((linkV [aO] aAt).1) 1 (by omega) (by omega) hR.1, ⟨trivial, trivial⟩, ?_⟩
  first | refine ⟨fun h => absurd (of_decide_eq_true h) (by omega), fun h => ?_⟩ | refine ⟨by kernel_rfl, fun h => absurd (of_decide_eq_true h) (by omega), fun h => ?_⟩
  first | refine ⟨fun h => absurd rfl (of_decide_eq_true h), fun h => ?_⟩ | refine ⟨by kernel_rfl, fun h => absurd rfl (of_decide_eq_true h), fun h => ?_⟩
  exact ⟨.refl _, trivial⟩
end Go.Proofs.VI
