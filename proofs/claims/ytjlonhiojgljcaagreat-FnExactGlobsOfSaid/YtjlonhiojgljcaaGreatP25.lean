/- Contracts of functions, and what they rest on: law FnExactGlobsOf. -/
import Derived.Test.YtjlonhiojgljcaaGreatO4
set_option linter.unusedVariables false
set_option linter.unusedSimpArgs false
set_option maxRecDepth 10000
set_option maxHeartbeats 4000000
namespace Go.Proofs.VI
open Go
theorem law_ExactGlobsOf (aL : List GObj) (aAt : Int) (hl_aL : aL.length ≤ 9223372036854775807) (ho_aL : ∀ y ∈ aL, GObj.ok y) (ho_aAt : -9223372036854775808 ≤ aAt ∧ aAt ≤ 9223372036854775807) : Con 5 [.ro 2 (GObj.ros aL), .int .i64 aAt] (.bool true) [none, none] := by
  refine con Tryz.func5 ?_
  refine ⟨[.ro, .ro], .int .i64 (szV 1048576 (bulkS GObj.bulk aL)), [none, none], sz_ObjS aL 1048576 (by omega) (by omega) hl_aL ho_aL, trivial, ?_⟩
  refine ⟨fun h => ⟨.refl _, trivial⟩, fun h => ?_⟩
  simp only [decide_eq_true_eq, decide_eq_false_iff_not] at h
  obtain ⟨e1, e1'⟩ := szV_nneg h
  have m_aL := cnt4 GObj.w GObj.bulk aL fun y _ => GObj.w4 y
  have b_aL := bulkS_len GObj.bulk aL
  have q_aL : aL.length ≤ 1099511627776 ∧ ∀ y ∈ aL, GObj.fit y := ⟨by omega, fun y hy => GObj.fit_of y (by have := bulkS_mem GObj.bulk aL y hy; omega)⟩
  have hS := secs_bulk aL
  have hGl := glbs_bulk aL
  have hl9 := gAll_len aL aAt
  have hR : (gAll aL aAt).1.length ≤ 1099511627776 ∧ ∀ y ∈ (gAll aL aAt).1, GString.fit y := ⟨by omega, fun _ _ => trivial⟩
  have hR2 : (gAll aL aAt).2.1.length ≤ 1099511627776 ∧ ∀ y ∈ (gAll aL aAt).2.1, GInt.fit y := ⟨by omega, fun _ _ => trivial⟩
  have hcR := cnt_String (gAll aL aAt).1
  have hcR2 := cntI (gAll aL aAt).2.1
  refine ⟨[.ro], .ow 2 (GObj.ows aL), [none], to_ObjS aL q_aL.1 q_aL.2, trivial, ?_⟩
  refine ⟨[.ro, .ro], .tup [.ow 1 (GString.ows ((gAll aL aAt).1)), .ow 1 (GInt.ows ((gAll aL aAt).2.1)), .int .i64 ((gAll aL aAt).2.2)], [none, none], by simp only [GObj.toRo_ows aL fun x _ => GObj.toRo_ow x]; exact spec_GlobsOf aL aAt q_aL.1 q_aL.2 ho_aL (by omega) (by omega) (by omega), ⟨⟨GString.noRo_ows ((gAll aL aAt).1) fun x _ => GString.noRo_ow x, GInt.noRo_ows ((gAll aL aAt).2.1) fun x _ => GInt.noRo_ow x, trivial, trivial⟩, trivial⟩, ?_⟩
  try refine ⟨by kernel_rfl, ?_⟩
  refine ⟨[.ro], .ow 2 (GObj.ows aL), [none], to_ObjS aL q_aL.1 q_aL.2, trivial, ?_⟩
  refine ⟨[.ro, .ro], .tup [.ow 1 (GString.ows ((gAll aL aAt).1)), .ow 1 (GInt.ows ((gAll aL aAt).2.1)), .int .i64 ((gAll aL aAt).2.2)], [none, none], by simp only [GObj.toRo_ows aL fun x _ => GObj.toRo_ow x]; exact impl_GlobsOf aL aAt q_aL.1 q_aL.2 ho_aL (by omega) (by omega) (by omega), ⟨⟨GString.noRo_ows ((gAll aL aAt).1) fun x _ => GString.noRo_ow x, GInt.noRo_ows ((gAll aL aAt).2.1) fun x _ => GInt.noRo_ow x, trivial, trivial⟩, trivial⟩, ?_⟩
  try refine ⟨by kernel_rfl, ?_⟩
  refine ⟨[.ro, .ro], .bool true, [none, none], by simp only [GString.toRo_ows ((gAll aL aAt).1) fun x _ => GString.toRo_ow x]; exact eq_StringS ((gAll aL aAt).1) hR.1 hR.2, ⟨trivial, trivial⟩, ?_⟩
  refine ⟨fun h => ?_, fun h => Bool.noConfusion h⟩
  refine ⟨[.ro, .ro], .bool true, [none, none], by simp only [GInt.toRo_ows ((gAll aL aAt).2.1) fun x _ => GInt.toRo_ow x]; exact eq_IntS ((gAll aL aAt).2.1) hR2.1 hR2.2, ⟨trivial, trivial⟩, ?_⟩
  refine ⟨fun h => ?_, fun h => Bool.noConfusion h⟩
  first | refine ⟨fun h => absurd rfl (of_decide_eq_true h), fun h => ?_⟩ | refine ⟨by kernel_rfl, fun h => absurd rfl (of_decide_eq_true h), fun h => ?_⟩
  refine ⟨[.ro], .ow 2 (GObj.ows aL), [none], to_ObjS aL q_aL.1 q_aL.2, trivial, ?_⟩
  refine ⟨[.ro, .ro], .bool true, [none, none], by simp only [GObj.toRo_ows aL fun x _ => GObj.toRo_ow x]; exact eq_ObjS aL q_aL.1 q_aL.2, ⟨trivial, trivial⟩, ?_⟩
  first | refine ⟨fun h => Bool.noConfusion h, fun h => ?_⟩ | refine ⟨by kernel_rfl, fun h => Bool.noConfusion h, fun h => ?_⟩
  refine ⟨[.muts 2, .ro], .int .i64 (1 + cntS GObj.w aL), [some (.ow 2 (GObj.ows (markS GObj.mark GObj.w aL 1))), none], mark_ObjS aL 1 (by omega) (by omega) q_aL.1 q_aL.2, trivial, ?_⟩
  refine ⟨fun h => ?_, fun h => absurd (of_decide_eq_true h) (by omega)⟩
  refine ⟨[.ro, .ro], .bool true, [none, none], by simp only [GString.toRo_ows ((gAll aL aAt).1) fun x _ => GString.toRo_ow x]; exact eq_StringS ((gAll aL aAt).1) hR.1 hR.2, ⟨trivial, trivial⟩, ?_⟩
  refine ⟨fun h => ?_, fun h => Bool.noConfusion h⟩
  refine ⟨[.ro, .ro], .bool true, [none, none], by simp only [GInt.toRo_ows ((gAll aL aAt).2.1) fun x _ => GInt.toRo_ow x]; exact eq_IntS ((gAll aL aAt).2.1) hR2.1 hR2.2, ⟨trivial, trivial⟩, ?_⟩
  refine ⟨fun h => ?_, fun h => Bool.noConfusion h⟩
  first | refine ⟨fun h => absurd rfl (of_decide_eq_true h), fun h => ?_⟩ | refine ⟨by kernel_rfl, fun h => absurd rfl (of_decide_eq_true h), fun h => ?_⟩
  refine ⟨[.muts 1, .ro], .int .i64 (1 + cntS GString.w ((gAll aL aAt).1)), [some (.ow 1 (GString.ows (markS GString.mark GString.w ((gAll aL aAt).1) 1))), none], mark_StringS ((gAll aL aAt).1) 1 (by omega) (by omega) hR.1, trivial, ?_⟩
  refine ⟨[.muts 1, .ro], .int .i64 (1 + cntS GString.w ((gAll aL aAt).1) + cntS GInt.w ((gAll aL aAt).2.1)), [some (.ow 1 (GInt.ows (markS GInt.mark GInt.w ((gAll aL aAt).2.1) (1 + cntS GString.w ((gAll aL aAt).1))))), none], mark_IntS ((gAll aL aAt).2.1) (1 + cntS GString.w ((gAll aL aAt).1)) (by omega) (by omega) hR2.1, trivial, ?_⟩
  refine ⟨[.ro, .ro], .int .i64 (1 + cntS GString.w ((gAll aL aAt).1)), [none, none], by simp only [GString.toRo_ows (markS GString.mark GString.w ((gAll aL aAt).1) 1) fun x _ => GString.toRo_ow x]; exact held_StringS ((gAll aL aAt).1) 1 (by omega) (by omega) hR.1, ⟨trivial, trivial⟩, ?_⟩
  first | refine ⟨fun h => absurd (of_decide_eq_true h) (by omega), fun h => ?_⟩ | refine ⟨by kernel_rfl, fun h => absurd (of_decide_eq_true h) (by omega), fun h => ?_⟩
  refine ⟨[.ro, .ro], .int .i64 (1 + cntS GString.w ((gAll aL aAt).1) + cntS GInt.w ((gAll aL aAt).2.1)), [none, none], by simp only [GInt.toRo_ows (markS GInt.mark GInt.w ((gAll aL aAt).2.1) (1 + cntS GString.w ((gAll aL aAt).1))) fun x _ => GInt.toRo_ow x]; exact held_IntS ((gAll aL aAt).2.1) (1 + cntS GString.w ((gAll aL aAt).1)) (by omega) (by omega) hR2.1, ⟨trivial, trivial⟩, ?_⟩
  first | refine ⟨fun h => absurd (of_decide_eq_true h) (by omega), fun h => ?_⟩ | refine ⟨by kernel_rfl, fun h => absurd (of_decide_eq_true h) (by omega), fun h => ?_⟩
  first | refine ⟨fun h => absurd rfl (of_decide_eq_true h), fun h => ?_⟩ | refine ⟨by kernel_rfl, fun h => absurd rfl (of_decide_eq_true h), fun h => ?_⟩
  refine ⟨[.ro], .ow 2 (GObj.ows aL), [none], to_ObjS aL q_aL.1 q_aL.2, trivial, ?_⟩
  refine ⟨[.ro, .ro], .tup [.ow 1 (GString.ows ((gAll aL aAt).1)), .ow 1 (GInt.ows ((gAll aL aAt).2.1)), .int .i64 ((gAll aL aAt).2.2)], [none, none], by simp only [GObj.toRo_ows aL fun x _ => GObj.toRo_ow x]; exact impl_GlobsOf aL aAt q_aL.1 q_aL.2 ho_aL (by omega) (by omega) (by omega), ⟨⟨GString.noRo_ows ((gAll aL aAt).1) fun x _ => GString.noRo_ow x, GInt.noRo_ows ((gAll aL aAt).2.1) fun x _ => GInt.noRo_ow x, trivial, trivial⟩, trivial⟩, ?_⟩
  try refine ⟨by kernel_rfl, ?_⟩
  refine ⟨[.ro, .ro], .bool true, [none, none], by simp only [GString.toRo_ows ((gAll aL aAt).1) fun x _ => GString.toRo_ow x]; exact eq_StringS ((gAll aL aAt).1) hR.1 hR.2, ⟨trivial, trivial⟩, ?_⟩
  refine ⟨fun h => ?_, fun h => Bool.noConfusion h⟩
  refine ⟨[.ro, .ro], .bool true, [none, none], by simp only [GInt.toRo_ows ((gAll aL aAt).2.1) fun x _ => GInt.toRo_ow x]; exact eq_IntS ((gAll aL aAt).2.1) hR2.1 hR2.2, ⟨trivial, trivial⟩, ?_⟩
  refine ⟨fun h => ?_, fun h => Bool.noConfusion h⟩
  first | refine ⟨fun h => absurd rfl (of_decide_eq_true h), fun h => ?_⟩ | refine ⟨by kernel_rfl, fun h => absurd rfl (of_decide_eq_true h), fun h => ?_⟩
  refine ⟨[.ro, .ro], .int .i64 (1 + cntS GString.w ((gAll aL aAt).1)), [none, none], by simp only [GString.toRo_ows (markS GString.mark GString.w ((gAll aL aAt).1) 1) fun x _ => GString.toRo_ow x]; exact held_StringS ((gAll aL aAt).1) 1 (by omega) (by omega) hR.1, ⟨trivial, trivial⟩, ?_⟩
  first | refine ⟨fun h => absurd (of_decide_eq_true h) (by omega), fun h => ?_⟩ | refine ⟨by kernel_rfl, fun h => absurd (of_decide_eq_true h) (by omega), fun h => ?_⟩
  refine ⟨[.ro, .ro], .int .i64 (1 + cntS GString.w ((gAll aL aAt).1) + cntS GInt.w ((gAll aL aAt).2.1)), [none, none], by simp only [GInt.toRo_ows (markS GInt.mark GInt.w ((gAll aL aAt).2.1) (1 + cntS GString.w ((gAll aL aAt).1))) fun x _ => GInt.toRo_ow x]; exact held_IntS ((gAll aL aAt).2.1) (1 + cntS GString.w ((gAll aL aAt).1)) (by omega) (by omega) hR2.1, ⟨trivial, trivial⟩, ?_⟩
  first | refine ⟨fun h => absurd (of_decide_eq_true h) (by omega), fun h => ?_⟩ | refine ⟨by kernel_rfl, fun h => absurd (of_decide_eq_true h) (by omega), fun h => ?_⟩
  first | refine ⟨fun h => absurd rfl (of_decide_eq_true h), fun h => ?_⟩ | refine ⟨by kernel_rfl, fun h => absurd rfl (of_decide_eq_true h), fun h => ?_⟩
  exact ⟨.refl _, trivial⟩
end Go.Proofs.VI
