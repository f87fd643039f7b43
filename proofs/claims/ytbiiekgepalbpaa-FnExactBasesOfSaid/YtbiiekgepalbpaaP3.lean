/- Contracts of functions, and what they rest on: law FnExactBasesOf. -/
import Derived.Test.YtbiiekgepalbpaaA4
set_option linter.unusedVariables false
set_option linter.unusedSimpArgs false
set_option maxRecDepth 10000
namespace Go.Proofs.VI
open Go
theorem law_ExactBasesOf (aL : List GObj) (aP : List GPlaced) (aMod : Int) (hl_aL : aL.length ≤ 9223372036854775807) (ho_aL : ∀ y ∈ aL, GObj.ok y) (hl_aP : aP.length ≤ 9223372036854775807) (ho_aP : ∀ y ∈ aP, GPlaced.ok y) (ho_aMod : -9223372036854775808 ≤ aMod ∧ aMod ≤ 9223372036854775807) : Con 7 [.ro 2 (GObj.ros aL), .ro 3 (GPlaced.ros aP), .int .i64 aMod] (.bool true) [none, none, none] := by
  refine con Try.func7 ?_
  refine ⟨[.ro, .ro], .int .i64 (szV 1048576 (bulkS GObj.bulk aL)), [none, none], sz_ObjS aL 1048576 (by omega) (by omega) hl_aL ho_aL, trivial, ?_⟩
  refine ⟨fun h => ⟨.refl _, trivial⟩, fun h => ?_⟩
  simp only [decide_eq_true_eq, decide_eq_false_iff_not] at h
  obtain ⟨e1, e1'⟩ := szV_nneg h
  refine ⟨[.ro, .ro], .int .i64 (szV (szV 1048576 (bulkS GObj.bulk aL)) (bulkS GPlaced.bulk aP)), [none, none], sz_PlacedS aP (szV 1048576 (bulkS GObj.bulk aL)) (by omega) (by omega) hl_aP ho_aP, trivial, ?_⟩
  refine ⟨fun h => ⟨.refl _, trivial⟩, fun h => ?_⟩
  simp only [decide_eq_true_eq, decide_eq_false_iff_not] at h
  obtain ⟨e2, e2'⟩ := szV_nneg h
  have m_aL := cnt4 GObj.w GObj.bulk aL fun y _ => GObj.w4 y
  have b_aL := bulkS_len GObj.bulk aL
  have q_aL : aL.length ≤ 1099511627776 ∧ ∀ y ∈ aL, GObj.fit y := ⟨by omega, fun y hy => GObj.fit_of y (by have := bulkS_mem GObj.bulk aL y hy; omega)⟩
  have m_aP := cnt4 GPlaced.w GPlaced.bulk aP fun y _ => GPlaced.w4 y
  have b_aP := bulkS_len GPlaced.bulk aP
  have q_aP : aP.length ≤ 1099511627776 ∧ ∀ y ∈ aP, GPlaced.fit y := ⟨by omega, fun y hy => GPlaced.fit_of y (by have := bulkS_mem GPlaced.bulk aP y hy; omega)⟩
  have hR : (basesOf aL aP aMod).length ≤ 1099511627776 ∧ ∀ y ∈ basesOf aL aP aMod, GInt.fit y := ⟨basesOf_len aL aP aMod q_aL.2, fun _ _ => trivial⟩
  have hcR := cntI (basesOf aL aP aMod)
  refine ⟨[.ro], .ow 2 (GObj.ows aL), [none], to_ObjS aL q_aL.1 q_aL.2, trivial, ?_⟩
  refine ⟨[.ro], .ow 3 (GPlaced.ows aP), [none], to_PlacedS aP q_aP.1 q_aP.2, trivial, ?_⟩
  refine ⟨[.ro, .ro, .ro], .ow 1 (GInt.ows (basesOf aL aP aMod)), [none, none, none], by simp only [GObj.toRo_ows aL fun x _ => GObj.toRo_ow x, GPlaced.toRo_ows aP fun x _ => GPlaced.toRo_ow x]; exact spec_BasesOf aL aP aMod q_aL.1 q_aP.1 q_aL.2, ⟨GInt.noRo_ows (basesOf aL aP aMod) fun x _ => GInt.noRo_ow x, trivial⟩, ?_⟩
  try refine ⟨rfl, ?_⟩
  refine ⟨[.ro], .ow 2 (GObj.ows aL), [none], to_ObjS aL q_aL.1 q_aL.2, trivial, ?_⟩
  refine ⟨[.ro], .ow 3 (GPlaced.ows aP), [none], to_PlacedS aP q_aP.1 q_aP.2, trivial, ?_⟩
  refine ⟨[.ro, .ro, .ro], .ow 1 (GInt.ows (basesOf aL aP aMod)), [none, none, none], by simp only [GObj.toRo_ows aL fun x _ => GObj.toRo_ow x, GPlaced.toRo_ows aP fun x _ => GPlaced.toRo_ow x]; exact impl_BasesOf aL aP aMod q_aL.1 q_aP.1 q_aL.2, ⟨GInt.noRo_ows (basesOf aL aP aMod) fun x _ => GInt.noRo_ow x, trivial⟩, ?_⟩
  try refine ⟨rfl, ?_⟩
  refine ⟨[.ro, .ro], .bool true, [none, none], by simp only [GInt.toRo_ows (basesOf aL aP aMod) fun x _ => GInt.toRo_ow x]; exact eq_IntS (basesOf aL aP aMod) hR.1 hR.2, ⟨trivial, trivial⟩, ?_⟩
  first | refine ⟨fun h => Bool.noConfusion h, fun h => ?_⟩ | refine ⟨rfl, fun h => Bool.noConfusion h, fun h => ?_⟩
  refine ⟨[.ro], .ow 2 (GObj.ows aL), [none], to_ObjS aL q_aL.1 q_aL.2, trivial, ?_⟩
  refine ⟨[.ro, .ro], .bool true, [none, none], by simp only [GObj.toRo_ows aL fun x _ => GObj.toRo_ow x]; exact eq_ObjS aL q_aL.1 q_aL.2, ⟨trivial, trivial⟩, ?_⟩
  first | refine ⟨fun h => Bool.noConfusion h, fun h => ?_⟩ | refine ⟨rfl, fun h => Bool.noConfusion h, fun h => ?_⟩
  refine ⟨[.ro], .ow 3 (GPlaced.ows aP), [none], to_PlacedS aP q_aP.1 q_aP.2, trivial, ?_⟩
  refine ⟨[.ro, .ro], .bool true, [none, none], by simp only [GPlaced.toRo_ows aP fun x _ => GPlaced.toRo_ow x]; exact eq_PlacedS aP q_aP.1 q_aP.2, ⟨trivial, trivial⟩, ?_⟩
  first | refine ⟨fun h => Bool.noConfusion h, fun h => ?_⟩ | refine ⟨rfl, fun h => Bool.noConfusion h, fun h => ?_⟩
  refine ⟨[.muts 2, .ro], .int .i64 (1 + cntS GObj.w aL), [some (.ow 2 (GObj.ows (markS GObj.mark GObj.w aL 1))), none], mark_ObjS aL 1 (by omega) (by omega) q_aL.1 q_aL.2, trivial, ?_⟩
  refine ⟨[.muts 3, .ro], .int .i64 (1 + cntS GObj.w aL + cntS GPlaced.w aP), [some (.ow 3 (GPlaced.ows (markS GPlaced.mark GPlaced.w aP (1 + cntS GObj.w aL)))), none], mark_PlacedS aP (1 + cntS GObj.w aL) (by omega) (by omega) q_aP.1, trivial, ?_⟩
  refine ⟨fun h => ?_, fun h => absurd (of_decide_eq_true h) (by omega)⟩
  refine ⟨[.ro, .ro], .bool true, [none, none], by simp only [GInt.toRo_ows (basesOf aL aP aMod) fun x _ => GInt.toRo_ow x]; exact eq_IntS (basesOf aL aP aMod) hR.1 hR.2, ⟨trivial, trivial⟩, ?_⟩
  first | refine ⟨fun h => Bool.noConfusion h, fun h => ?_⟩ | refine ⟨rfl, fun h => Bool.noConfusion h, fun h => ?_⟩
  refine ⟨[.muts 1, .ro], .int .i64 (1 + cntS GInt.w (basesOf aL aP aMod)), [some (.ow 1 (GInt.ows (markS GInt.mark GInt.w (basesOf aL aP aMod) 1))), none], mark_IntS (basesOf aL aP aMod) 1 (by omega) (by omega) hR.1, trivial, ?_⟩
  refine ⟨[.ro, .ro], .int .i64 (1 + cntS GInt.w (basesOf aL aP aMod)), [none, none], by simp only [GInt.toRo_ows (markS GInt.mark GInt.w (basesOf aL aP aMod) 1) fun x _ => GInt.toRo_ow x]; exact held_IntS (basesOf aL aP aMod) 1 (by omega) (by omega) hR.1, ⟨trivial, trivial⟩, ?_⟩
  refine ⟨fun h => absurd (of_decide_eq_true h) (by omega), fun h => ?_⟩
  refine ⟨fun h => absurd rfl (of_decide_eq_true h), fun h => ?_⟩
  refine ⟨[.ro], .ow 2 (GObj.ows aL), [none], to_ObjS aL q_aL.1 q_aL.2, trivial, ?_⟩
  refine ⟨[.ro], .ow 3 (GPlaced.ows aP), [none], to_PlacedS aP q_aP.1 q_aP.2, trivial, ?_⟩
  refine ⟨[.ro, .ro, .ro], .ow 1 (GInt.ows (basesOf aL aP aMod)), [none, none, none], by simp only [GObj.toRo_ows aL fun x _ => GObj.toRo_ow x, GPlaced.toRo_ows aP fun x _ => GPlaced.toRo_ow x]; exact impl_BasesOf aL aP aMod q_aL.1 q_aP.1 q_aL.2, ⟨GInt.noRo_ows (basesOf aL aP aMod) fun x _ => GInt.noRo_ow x, trivial⟩, ?_⟩
  try refine ⟨rfl, ?_⟩
  refine ⟨[.ro, .ro], .bool true, [none, none], by simp only [GInt.toRo_ows (basesOf aL aP aMod) fun x _ => GInt.toRo_ow x]; exact eq_IntS (basesOf aL aP aMod) hR.1 hR.2, ⟨trivial, trivial⟩, ?_⟩
  first | refine ⟨fun h => Bool.noConfusion h, fun h => ?_⟩ | refine ⟨rfl, fun h => Bool.noConfusion h, fun h => ?_⟩
  refine ⟨[.ro, .ro], .int .i64 (1 + cntS GInt.w (basesOf aL aP aMod)), [none, none], by simp only [GInt.toRo_ows (markS GInt.mark GInt.w (basesOf aL aP aMod) 1) fun x _ => GInt.toRo_ow x]; exact held_IntS (basesOf aL aP aMod) 1 (by omega) (by omega) hR.1, ⟨trivial, trivial⟩, ?_⟩
  refine ⟨fun h => absurd (of_decide_eq_true h) (by omega), fun h => ?_⟩
  refine ⟨fun h => absurd rfl (of_decide_eq_true h), fun h => ?_⟩
  exact ⟨.refl _, trivial⟩
end Go.Proofs.VI
