/- Contracts. -/
import Derived.Test.YtfhjbgicfchfkaaD7
import Derived.Test.YtfhjbgicfchfkaaD8
set_option linter.unusedVariables false
set_option linter.unusedSimpArgs false
set_option maxRecDepth 10000
namespace Go.Proofs.VI
open Go
theorem law_ExactSizeOf (aO : GObj) (ho_aO : GObj.ok aO) : Con 5 [.agg (GObj.ro aO)] (.bool true) [none] := by
  refine con Try.func5 ?_
  refine ⟨[.ro, .ro], .int .i64 (szV 1048576 (GObj.bulk aO)), [none, none], sz_Obj aO 1048576 (by omega) (by omega) ho_aO, trivial, ?_⟩
  refine ⟨fun h => ⟨.refl _, trivial⟩, fun h => ?_⟩
  simp only [decide_eq_true_eq, decide_eq_false_iff_not] at h
  obtain ⟨e1, e1'⟩ := szV_nneg h
  have q_aO := GObj.fit_of aO (by omega)
  have hz := sizeSum_le aO.sects
  have hB := GObj.bulk_un aO
  refine ⟨[.ro], .agg (GObj.ow aO), [none], to_Obj aO q_aO, trivial, ?_⟩
  refine ⟨[.ro], .int .i64 (sizeSum aO.sects : Int), [none], by simp only [GSect.toRo_ows aO.sects fun x _ => GSect.toRo_ow x, GGlob.toRo_ows aO.globs fun x _ => GGlob.toRo_ow x]; exact spec_SizeOf aO q_aO (by omega), ⟨trivial, trivial⟩, ?_⟩
  refine ⟨[.ro], .agg (GObj.ow aO), [none], to_Obj aO q_aO, trivial, ?_⟩
  refine ⟨[.ro], .int .i64 (sizeSum aO.sects : Int), [none], by simp only [GSect.toRo_ows aO.sects fun x _ => GSect.toRo_ow x, GGlob.toRo_ows aO.globs fun x _ => GGlob.toRo_ow x]; exact impl_SizeOf aO q_aO (by omega), ⟨trivial, trivial⟩, ?_⟩
  refine ⟨fun h => absurd rfl (of_decide_eq_true h), fun h => ?_⟩
  refine ⟨[.ro], .agg (GObj.ow aO), [none], to_Obj aO q_aO, trivial, ?_⟩
  refine ⟨[.ro, .ro], .bool true, [none, none], by simp only [GSect.toRo_ows aO.sects fun x _ => GSect.toRo_ow x, GGlob.toRo_ows aO.globs fun x _ => GGlob.toRo_ow x]; exact eq_Obj aO q_aO, ⟨trivial, trivial⟩, ?_⟩
  first | refine ⟨fun h => Bool.noConfusion h, fun h => ?_⟩ | refine ⟨rfl, fun h => Bool.noConfusion h, fun h => ?_⟩
  exact ⟨.refl _, trivial⟩
theorem law_ExactHas (aL : List GObj) (aGlob : ByteArray) (hl_aL : aL.length ≤ 9223372036854775807) (ho_aL : ∀ y ∈ aL, GObj.ok y) (ho_aGlob : aGlob.size ≤ 9223372036854775807) : Con 7 [.ro 2 (GObj.ros aL), .str aGlob] (.bool true) [none, none] := by
  refine con Try.func7 ?_
  refine ⟨fun h => ⟨.refl _, trivial⟩, fun h => ?_⟩
  have e1 := of_decide_eq_false h
  refine ⟨[.ro, .ro], .int .i64 (szV 1048576 (bulkS GObj.bulk aL)), [none, none], sz_ObjS aL 1048576 (by omega) (by omega) hl_aL ho_aL, trivial, ?_⟩
  refine ⟨fun h => ⟨.refl _, trivial⟩, fun h => ?_⟩
  simp only [decide_eq_true_eq, decide_eq_false_iff_not] at h
  obtain ⟨e2, e2'⟩ := szV_nneg h
  have b_aL := bulkS_len GObj.bulk aL
  have q_aL : aL.length ≤ 1099511627776 ∧ ∀ y ∈ aL, GObj.fit y := ⟨by omega, fun y hy => GObj.fit_of y (by have := bulkS_mem GObj.bulk aL y hy; omega)⟩
  refine ⟨[.ro], .ow 2 (GObj.ows aL), [none], to_ObjS aL q_aL.1 q_aL.2, trivial, ?_⟩
  refine ⟨[.ro, .ro], .bool (hasL aL aGlob), [none, none], by simp only [GObj.toRo_ows aL fun x _ => GObj.toRo_ow x]; exact spec_Has aL aGlob q_aL.1 q_aL.2, ⟨trivial, trivial⟩, ?_⟩
  refine ⟨[.ro], .ow 2 (GObj.ows aL), [none], to_ObjS aL q_aL.1 q_aL.2, trivial, ?_⟩
  refine ⟨[.ro, .ro], .bool (hasL aL aGlob), [none, none], by simp only [GObj.toRo_ows aL fun x _ => GObj.toRo_ow x]; exact impl_Has aL aGlob q_aL.1 q_aL.2, ⟨trivial, trivial⟩, ?_⟩
  refine ⟨fun h => absurd h (by simp), fun h => ?_⟩
  refine ⟨[.ro], .ow 2 (GObj.ows aL), [none], to_ObjS aL q_aL.1 q_aL.2, trivial, ?_⟩
  refine ⟨[.ro, .ro], .bool true, [none, none], by simp only [GObj.toRo_ows aL fun x _ => GObj.toRo_ow x]; exact eq_ObjS aL q_aL.1 q_aL.2, ⟨trivial, trivial⟩, ?_⟩
  first | refine ⟨fun h => Bool.noConfusion h, fun h => ?_⟩ | refine ⟨rfl, fun h => Bool.noConfusion h, fun h => ?_⟩
  exact ⟨.refl _, trivial⟩
end Go.Proofs.VI
