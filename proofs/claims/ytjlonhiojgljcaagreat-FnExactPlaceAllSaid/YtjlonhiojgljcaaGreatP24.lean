/- Contracts of functions, and what they rest on: law FnExactPlaceAll. -/
import Derived.Test.YtjlonhiojgljcaaGreatO2
set_option linter.unusedVariables false
set_option linter.unusedSimpArgs false
set_option maxRecDepth 10000
set_option maxHeartbeats 4000000
namespace Go.Proofs.VI
open Go
theorem law_ExactPlaceAll (aL : List GObj) (aAt : Int) (hl_aL : aL.length ≤ 9223372036854775807) (ho_aL : ∀ y ∈ aL, GObj.ok y) (ho_aAt : -9223372036854775808 ≤ aAt ∧ aAt ≤ 9223372036854775807) : Con 4 [.ro 2 (GObj.ros aL), .int .i64 aAt] (.bool true) [none, none] := by
  refine con Tryz.func4 ?_
  refine ⟨[.ro, .ro], .int .i64 (szV 1048576 (bulkS GObj.bulk aL)), [none, none], sz_ObjS aL 1048576 (by omega) (by omega) hl_aL ho_aL, trivial, ?_⟩
  refine ⟨fun h => ⟨.refl _, trivial⟩, fun h => ?_⟩
  simp only [decide_eq_true_eq, decide_eq_false_iff_not] at h
  obtain ⟨e1, e1'⟩ := szV_nneg h
  have m_aL := cnt4 GObj.w GObj.bulk aL fun y _ => GObj.w4 y
  have b_aL := bulkS_len GObj.bulk aL
  have q_aL : aL.length ≤ 1099511627776 ∧ ∀ y ∈ aL, GObj.fit y := ⟨by omega, fun y hy => GObj.fit_of y (by have := bulkS_mem GObj.bulk aL y hy; omega)⟩
  have hS := secs_bulk aL
  have hl9 := placeL_len aL aAt (by omega)
  have hR : (placeL aL aAt).length ≤ 1099511627776 ∧ ∀ y ∈ placeL aL aAt, GPlaced.fit y := ⟨hl9, fun _ _ => trivial⟩
  have hcR := cnt_Placed (placeL aL aAt)
  refine ⟨[.ro], .ow 2 (GObj.ows aL), [none], to_ObjS aL q_aL.1 q_aL.2, trivial, ?_⟩
  refine ⟨[.frz, .ro], .tup [.ro 3 (GPlaced.ros (placeL aL aAt)), .int .i64 (placeE aL aAt), .int .i64 (placeC aL aAt)], [none, none], by simp only [GObj.toRo_ows aL fun x _ => GObj.toRo_ow x]; exact spec_PlaceAll aL aAt q_aL.1 q_aL.2 ho_aL (by omega) (by omega), trivial, ?_⟩
  try refine ⟨by kernel_rfl, ?_⟩
  refine ⟨[.ro], .ow 2 (GObj.ows aL), [none], to_ObjS aL q_aL.1 q_aL.2, trivial, ?_⟩
  refine ⟨[.ro, .ro], .tup [.ow 3 (GPlaced.ows (placeL aL aAt)), .int .i64 (placeE aL aAt), .int .i64 (placeC aL aAt)], [none, none], by simp only [GObj.toRo_ows aL fun x _ => GObj.toRo_ow x]; exact impl_PlaceAll aL aAt q_aL.1 q_aL.2 ho_aL (by omega) (by omega), ⟨⟨GPlaced.noRo_ows (placeL aL aAt) fun x _ => GPlaced.noRo_ow x, trivial, trivial, trivial⟩, trivial⟩, ?_⟩
  try refine ⟨by kernel_rfl, ?_⟩
  refine ⟨[.ro, .ro], .bool true, [none, none], by simp only [GPlaced.toRo_ows (placeL aL aAt) fun x _ => GPlaced.toRo_ow x]; exact eq_PlacedS (placeL aL aAt) hR.1 hR.2, ⟨trivial, trivial⟩, ?_⟩
  refine ⟨fun h => ?_, fun h => Bool.noConfusion h⟩
  refine ⟨fun h => ?_, fun h => absurd rfl (of_decide_eq_true h)⟩
  first | refine ⟨fun h => absurd rfl (of_decide_eq_true h), fun h => ?_⟩ | refine ⟨by kernel_rfl, fun h => absurd rfl (of_decide_eq_true h), fun h => ?_⟩
  refine ⟨[.ro], .ow 2 (GObj.ows aL), [none], to_ObjS aL q_aL.1 q_aL.2, trivial, ?_⟩
  refine ⟨[.ro, .ro], .bool true, [none, none], by simp only [GObj.toRo_ows aL fun x _ => GObj.toRo_ow x]; exact eq_ObjS aL q_aL.1 q_aL.2, ⟨trivial, trivial⟩, ?_⟩
  first | refine ⟨fun h => Bool.noConfusion h, fun h => ?_⟩ | refine ⟨by kernel_rfl, fun h => Bool.noConfusion h, fun h => ?_⟩
  refine ⟨[.muts 2, .ro], .int .i64 (1 + cntS GObj.w aL), [some (.ow 2 (GObj.ows (markS GObj.mark GObj.w aL 1))), none], mark_ObjS aL 1 (by omega) (by omega) q_aL.1 q_aL.2, trivial, ?_⟩
  refine ⟨fun h => ?_, fun h => absurd (of_decide_eq_true h) (by omega)⟩
  refine ⟨[.ro, .ro], .bool true, [none, none], by simp only [GPlaced.toRo_ows (placeL aL aAt) fun x _ => GPlaced.toRo_ow x]; exact eq_PlacedS (placeL aL aAt) hR.1 hR.2, ⟨trivial, trivial⟩, ?_⟩
  refine ⟨fun h => ?_, fun h => Bool.noConfusion h⟩
  refine ⟨fun h => ?_, fun h => absurd rfl (of_decide_eq_true h)⟩
  first | refine ⟨fun h => absurd rfl (of_decide_eq_true h), fun h => ?_⟩ | refine ⟨by kernel_rfl, fun h => absurd rfl (of_decide_eq_true h), fun h => ?_⟩
  refine ⟨[.muts 3, .ro], .int .i64 (1 + cntS GPlaced.w (placeL aL aAt)), [some (.ow 3 (GPlaced.ows (markS GPlaced.mark GPlaced.w (placeL aL aAt) 1))), none], mark_PlacedS (placeL aL aAt) 1 (by omega) (by omega) hR.1, trivial, ?_⟩
  refine ⟨[.ro, .ro], .int .i64 (1 + cntS GPlaced.w (placeL aL aAt)), [none, none], by simp only [GPlaced.toRo_ows (markS GPlaced.mark GPlaced.w (placeL aL aAt) 1) fun x _ => GPlaced.toRo_ow x]; exact held_PlacedS (placeL aL aAt) 1 (by omega) (by omega) hR.1, ⟨trivial, trivial⟩, ?_⟩
  first | refine ⟨fun h => absurd (of_decide_eq_true h) (by omega), fun h => ?_⟩ | refine ⟨by kernel_rfl, fun h => absurd (of_decide_eq_true h) (by omega), fun h => ?_⟩
  first | refine ⟨fun h => absurd rfl (of_decide_eq_true h), fun h => ?_⟩ | refine ⟨by kernel_rfl, fun h => absurd rfl (of_decide_eq_true h), fun h => ?_⟩
  refine ⟨[.ro], .ow 2 (GObj.ows aL), [none], to_ObjS aL q_aL.1 q_aL.2, trivial, ?_⟩
  refine ⟨[.ro, .ro], .tup [.ow 3 (GPlaced.ows (placeL aL aAt)), .int .i64 (placeE aL aAt), .int .i64 (placeC aL aAt)], [none, none], by simp only [GObj.toRo_ows aL fun x _ => GObj.toRo_ow x]; exact impl_PlaceAll aL aAt q_aL.1 q_aL.2 ho_aL (by omega) (by omega), ⟨⟨GPlaced.noRo_ows (placeL aL aAt) fun x _ => GPlaced.noRo_ow x, trivial, trivial, trivial⟩, trivial⟩, ?_⟩
  try refine ⟨by kernel_rfl, ?_⟩
  refine ⟨[.ro, .ro], .bool true, [none, none], by simp only [GPlaced.toRo_ows (placeL aL aAt) fun x _ => GPlaced.toRo_ow x]; exact eq_PlacedS (placeL aL aAt) hR.1 hR.2, ⟨trivial, trivial⟩, ?_⟩
  refine ⟨fun h => ?_, fun h => Bool.noConfusion h⟩
  refine ⟨fun h => ?_, fun h => absurd rfl (of_decide_eq_true h)⟩
  first | refine ⟨fun h => absurd rfl (of_decide_eq_true h), fun h => ?_⟩ | refine ⟨by kernel_rfl, fun h => absurd rfl (of_decide_eq_true h), fun h => ?_⟩
  refine ⟨[.ro, .ro], .int .i64 (1 + cntS GPlaced.w (placeL aL aAt)), [none, none], by simp only [GPlaced.toRo_ows (markS GPlaced.mark GPlaced.w (placeL aL aAt) 1) fun x _ => GPlaced.toRo_ow x]; exact held_PlacedS (placeL aL aAt) 1 (by omega) (by omega) hR.1, ⟨trivial, trivial⟩, ?_⟩
  first | refine ⟨fun h => absurd (of_decide_eq_true h) (by omega), fun h => ?_⟩ | refine ⟨by kernel_rfl, fun h => absurd (of_decide_eq_true h) (by omega), fun h => ?_⟩
  first | refine ⟨fun h => absurd rfl (of_decide_eq_true h), fun h => ?_⟩ | refine ⟨by kernel_rfl, fun h => absurd rfl (of_decide_eq_true h), fun h => ?_⟩
  exact ⟨.refl _, trivial⟩
end Go.Proofs.VI
