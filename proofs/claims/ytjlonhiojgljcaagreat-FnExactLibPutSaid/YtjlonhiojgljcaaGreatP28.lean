/- Contracts of functions, and what they rest on: law FnExactLibPut. -/
import Derived.Test.YtjlonhiojgljcaaGreatQ5
set_option linter.unusedVariables false
set_option linter.unusedSimpArgs false
set_option maxRecDepth 10000
set_option maxHeartbeats 4000000
namespace Go.Proofs.VI
open Go
theorem law_ExactLibPut (aL : GLib) (aName : ByteArray) (aO : GObj) (ho_aL : GLib.ok aL) (ho_aName : aName.size ≤ 9223372036854775807) (ho_aO : GObj.ok aO) : Con 8 [.agg (GLib.ro aL), .str aName, .agg (GObj.ro aO)] (.bool true) [none, none, none] := by
  refine con Tryz.func8 ?_
  refine ⟨fun h => ⟨.refl _, trivial⟩, fun h => ?_⟩
  have e1 := of_decide_eq_false h
  try simp only [List.length_map] at e1
  refine ⟨[.ro, .ro], .int .i64 (szV 1048576 (GLib.bulk aL)), [none, none], sz_Lib aL 1048576 (by omega) (by omega) ho_aL, trivial, ?_⟩
  refine ⟨fun h => ⟨.refl _, trivial⟩, fun h => ?_⟩
  simp only [decide_eq_true_eq, decide_eq_false_iff_not] at h
  obtain ⟨e2, e2'⟩ := szV_nneg h
  refine ⟨[.ro, .ro], .int .i64 (szV (szV 1048576 (GLib.bulk aL)) (GObj.bulk aO)), [none, none], sz_Obj aO (szV 1048576 (GLib.bulk aL)) (by omega) (by omega) ho_aO, trivial, ?_⟩
  refine ⟨fun h => ⟨.refl _, trivial⟩, fun h => ?_⟩
  simp only [decide_eq_true_eq, decide_eq_false_iff_not] at h
  obtain ⟨e3, e3'⟩ := szV_nneg h
  have q_aL := GLib.fit_of aL (by omega)
  have m_aL := GLib.tw4 aL
  have q_aO := GObj.fit_of aO (by omega)
  have m_aO := GObj.tw4 aO
  have hpB := objB_len aO
  have hpL := putObj_len aO
  have hRR := putV_fit (s := aName) (b := putObj aO) q_aL hpL
  have hR := hRR.1
  have hcR := hRR.2
  refine ⟨[.ro], .agg (GLib.ow aL), [none], to_Lib aL q_aL, trivial, ?_⟩
  refine ⟨[.ro], .agg (GObj.ow aO), [none], to_Obj aO q_aO, trivial, ?_⟩
  refine ⟨[.frz, .ro, .frz], .tup [.agg (GLib.ro (GLib.mk (putV aL.mods aName (putObj aO)).1)), .bool ((putV aL.mods aName (putObj aO)).2)], [none, none, none], by simp only [GLibMod.toRo_ows aL.mods fun x _ => GLibMod.toRo_ow x, GSect.toRo_ows aO.sects fun x _ => GSect.toRo_ow x, GGlob.toRo_ows aO.globs fun x _ => GGlob.toRo_ow x]; exact spec_LibPut aL aName aO q_aL ho_aL q_aO ho_aO (by omega) (by omega), trivial, ?_⟩
  try refine ⟨by kernel_rfl, ?_⟩
  refine ⟨[.ro], .agg (GLib.ow aL), [none], to_Lib aL q_aL, trivial, ?_⟩
  refine ⟨[.ro], .agg (GObj.ow aO), [none], to_Obj aO q_aO, trivial, ?_⟩
  refine ⟨[.ro, .ro, .ro], .tup [.agg (GLib.ow (GLib.mk (putV aL.mods aName (putObj aO)).1)), .bool ((putV aL.mods aName (putObj aO)).2)], [none, none, none], by simp only [GLibMod.toRo_ows aL.mods fun x _ => GLibMod.toRo_ow x, GSect.toRo_ows aO.sects fun x _ => GSect.toRo_ow x, GGlob.toRo_ows aO.globs fun x _ => GGlob.toRo_ow x]; exact impl_LibPut aL aName aO q_aL ho_aL q_aO ho_aO (by omega) (by omega), ⟨⟨GLib.noRo_ow (GLib.mk (putV aL.mods aName (putObj aO)).1), trivial, trivial⟩, trivial⟩, ?_⟩
  try refine ⟨by kernel_rfl, ?_⟩
  refine ⟨[.ro, .ro], .bool true, [none, none], by simp only [GLibMod.toRo_ows ((GLib.mk (putV aL.mods aName (putObj aO)).1).mods) fun x _ => GLibMod.toRo_ow x]; exact eq_Lib (GLib.mk (putV aL.mods aName (putObj aO)).1) hR, ⟨trivial, trivial⟩, ?_⟩
  refine ⟨fun h => ?_, fun h => Bool.noConfusion h⟩
  first | refine ⟨fun h => absurd h (by simp), fun h => ?_⟩ | refine ⟨by kernel_rfl, fun h => absurd h (by simp), fun h => ?_⟩
  refine ⟨[.ro], .agg (GLib.ow aL), [none], to_Lib aL q_aL, trivial, ?_⟩
  refine ⟨[.ro, .ro], .bool true, [none, none], by simp only [GLibMod.toRo_ows aL.mods fun x _ => GLibMod.toRo_ow x]; exact eq_Lib aL q_aL, ⟨trivial, trivial⟩, ?_⟩
  first | refine ⟨fun h => Bool.noConfusion h, fun h => ?_⟩ | refine ⟨by kernel_rfl, fun h => Bool.noConfusion h, fun h => ?_⟩
  refine ⟨[.ro], .agg (GObj.ow aO), [none], to_Obj aO q_aO, trivial, ?_⟩
  refine ⟨[.ro, .ro], .bool true, [none, none], by simp only [GSect.toRo_ows aO.sects fun x _ => GSect.toRo_ow x, GGlob.toRo_ows aO.globs fun x _ => GGlob.toRo_ow x]; exact eq_Obj aO q_aO, ⟨trivial, trivial⟩, ?_⟩
  first | refine ⟨fun h => Bool.noConfusion h, fun h => ?_⟩ | refine ⟨by kernel_rfl, fun h => Bool.noConfusion h, fun h => ?_⟩
  refine ⟨[.muta [2], .ro], .int .i64 (1 + GLib.tw aL), [some (.agg (GLib.outs aL 1)), none], mark_Lib aL 1 (by omega) (by omega) q_aL, trivial, ?_⟩
  refine ⟨[.muta [3, 5], .ro], .int .i64 (1 + GLib.tw aL + GObj.tw aO), [some (.agg (GObj.outs aO (1 + GLib.tw aL))), none], mark_Obj aO (1 + GLib.tw aL) (by omega) (by omega) q_aO, trivial, ?_⟩
  refine ⟨fun h => ?_, fun h => absurd (of_decide_eq_true h) (by omega)⟩
  refine ⟨[.ro, .ro], .bool true, [none, none], by simp only [GLibMod.toRo_ows ((GLib.mk (putV aL.mods aName (putObj aO)).1).mods) fun x _ => GLibMod.toRo_ow x]; exact eq_Lib (GLib.mk (putV aL.mods aName (putObj aO)).1) hR, ⟨trivial, trivial⟩, ?_⟩
  refine ⟨fun h => ?_, fun h => Bool.noConfusion h⟩
  first | refine ⟨fun h => absurd h (by simp), fun h => ?_⟩ | refine ⟨by kernel_rfl, fun h => absurd h (by simp), fun h => ?_⟩
  refine ⟨[.muta [2], .ro], .int .i64 (1 + GLib.tw (GLib.mk (putV aL.mods aName (putObj aO)).1)), [some (.agg (GLib.outs (GLib.mk (putV aL.mods aName (putObj aO)).1) 1)), none], mark_Lib (GLib.mk (putV aL.mods aName (putObj aO)).1) 1 (by omega) (by omega) hR, trivial, ?_⟩
  refine ⟨[.ro, .ro], .int .i64 (1 + GLib.tw (GLib.mk (putV aL.mods aName (putObj aO)).1)), [none, none], held_Lib (GLib.mk (putV aL.mods aName (putObj aO)).1) 1 (by omega) (by omega) hR, ⟨trivial, trivial⟩, ?_⟩
  first | refine ⟨fun h => absurd (of_decide_eq_true h) (by omega), fun h => ?_⟩ | refine ⟨by kernel_rfl, fun h => absurd (of_decide_eq_true h) (by omega), fun h => ?_⟩
  first | refine ⟨fun h => absurd rfl (of_decide_eq_true h), fun h => ?_⟩ | refine ⟨by kernel_rfl, fun h => absurd rfl (of_decide_eq_true h), fun h => ?_⟩
  refine ⟨[.ro], .agg (GLib.ow aL), [none], to_Lib aL q_aL, trivial, ?_⟩
  refine ⟨[.ro], .agg (GObj.ow aO), [none], to_Obj aO q_aO, trivial, ?_⟩
  refine ⟨[.ro, .ro, .ro], .tup [.agg (GLib.ow (GLib.mk (putV aL.mods aName (putObj aO)).1)), .bool ((putV aL.mods aName (putObj aO)).2)], [none, none, none], by simp only [GLibMod.toRo_ows aL.mods fun x _ => GLibMod.toRo_ow x, GSect.toRo_ows aO.sects fun x _ => GSect.toRo_ow x, GGlob.toRo_ows aO.globs fun x _ => GGlob.toRo_ow x]; exact impl_LibPut aL aName aO q_aL ho_aL q_aO ho_aO (by omega) (by omega), ⟨⟨GLib.noRo_ow (GLib.mk (putV aL.mods aName (putObj aO)).1), trivial, trivial⟩, trivial⟩, ?_⟩
  try refine ⟨by kernel_rfl, ?_⟩
  refine ⟨[.ro, .ro], .bool true, [none, none], by simp only [GLibMod.toRo_ows ((GLib.mk (putV aL.mods aName (putObj aO)).1).mods) fun x _ => GLibMod.toRo_ow x]; exact eq_Lib (GLib.mk (putV aL.mods aName (putObj aO)).1) hR, ⟨trivial, trivial⟩, ?_⟩
  refine ⟨fun h => ?_, fun h => Bool.noConfusion h⟩
  first | refine ⟨fun h => absurd h (by simp), fun h => ?_⟩ | refine ⟨by kernel_rfl, fun h => absurd h (by simp), fun h => ?_⟩
  refine ⟨[.ro, .ro], .int .i64 (1 + GLib.tw (GLib.mk (putV aL.mods aName (putObj aO)).1)), [none, none], held_Lib (GLib.mk (putV aL.mods aName (putObj aO)).1) 1 (by omega) (by omega) hR, ⟨trivial, trivial⟩, ?_⟩
  first | refine ⟨fun h => absurd (of_decide_eq_true h) (by omega), fun h => ?_⟩ | refine ⟨by kernel_rfl, fun h => absurd (of_decide_eq_true h) (by omega), fun h => ?_⟩
  first | refine ⟨fun h => absurd rfl (of_decide_eq_true h), fun h => ?_⟩ | refine ⟨by kernel_rfl, fun h => absurd rfl (of_decide_eq_true h), fun h => ?_⟩
  exact ⟨.refl _, trivial⟩
end Go.Proofs.VI
