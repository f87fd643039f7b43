/- Contracts of functions, and what they rest on: law FnExactLibDrop. -/
import Derived.Test.YtjlonhiojgljcaaGreatQ2
set_option linter.unusedVariables false
set_option linter.unusedSimpArgs false
set_option maxRecDepth 10000
set_option maxHeartbeats 4000000
namespace Go.Proofs.VI
open Go
theorem law_ExactLibDrop (aL : GLib) (aName : ByteArray) (ho_aL : GLib.ok aL) (ho_aName : aName.size ≤ 9223372036854775807) : Con 7 [.agg (GLib.ro aL), .str aName] (.bool true) [none, none] := by
  refine con Tryz.func7 ?_
  refine ⟨fun h => ⟨.refl _, trivial⟩, fun h => ?_⟩
  have e1 := of_decide_eq_false h
  try simp only [List.length_map] at e1
  refine ⟨[.ro, .ro], .int .i64 (szV 1048576 (GLib.bulk aL)), [none, none], sz_Lib aL 1048576 (by omega) (by omega) ho_aL, trivial, ?_⟩
  refine ⟨fun h => ⟨.refl _, trivial⟩, fun h => ?_⟩
  simp only [decide_eq_true_eq, decide_eq_false_iff_not] at h
  obtain ⟨e2, e2'⟩ := szV_nneg h
  have q_aL := GLib.fit_of aL (by omega)
  have m_aL := GLib.tw4 aL
  have hRR := dropV_fit aL aName q_aL
  have hR := hRR.1
  have hcR := hRR.2
  refine ⟨[.ro], .agg (GLib.ow aL), [none], to_Lib aL q_aL, trivial, ?_⟩
  refine ⟨[.frz, .ro], .tup [.agg (GLib.ro (GLib.mk (dropV aL.mods aName).1)), .bool ((dropV aL.mods aName).2)], [none, none], by simp only [GLibMod.toRo_ows aL.mods fun x _ => GLibMod.toRo_ow x]; exact spec_LibDrop aL aName q_aL ho_aL, trivial, ?_⟩
  try refine ⟨by kernel_rfl, ?_⟩
  refine ⟨[.ro], .agg (GLib.ow aL), [none], to_Lib aL q_aL, trivial, ?_⟩
  refine ⟨[.ro, .ro], .tup [.agg (GLib.ow (GLib.mk (dropV aL.mods aName).1)), .bool ((dropV aL.mods aName).2)], [none, none], by simp only [GLibMod.toRo_ows aL.mods fun x _ => GLibMod.toRo_ow x]; exact impl_LibDrop aL aName q_aL ho_aL, ⟨⟨GLib.noRo_ow (GLib.mk (dropV aL.mods aName).1), trivial, trivial⟩, trivial⟩, ?_⟩
  try refine ⟨by kernel_rfl, ?_⟩
  refine ⟨[.ro, .ro], .bool true, [none, none], by simp only [GLibMod.toRo_ows ((GLib.mk (dropV aL.mods aName).1).mods) fun x _ => GLibMod.toRo_ow x]; exact eq_Lib (GLib.mk (dropV aL.mods aName).1) hR, ⟨trivial, trivial⟩, ?_⟩
  refine ⟨fun h => ?_, fun h => Bool.noConfusion h⟩
  first | refine ⟨fun h => absurd h (by simp), fun h => ?_⟩ | refine ⟨by kernel_rfl, fun h => absurd h (by simp), fun h => ?_⟩
  refine ⟨[.ro], .agg (GLib.ow aL), [none], to_Lib aL q_aL, trivial, ?_⟩
  refine ⟨[.ro, .ro], .bool true, [none, none], by simp only [GLibMod.toRo_ows aL.mods fun x _ => GLibMod.toRo_ow x]; exact eq_Lib aL q_aL, ⟨trivial, trivial⟩, ?_⟩
  first | refine ⟨fun h => Bool.noConfusion h, fun h => ?_⟩ | refine ⟨by kernel_rfl, fun h => Bool.noConfusion h, fun h => ?_⟩
  refine ⟨[.muta [2], .ro], .int .i64 (1 + GLib.tw aL), [some (.agg (GLib.outs aL 1)), none], mark_Lib aL 1 (by omega) (by omega) q_aL, trivial, ?_⟩
  refine ⟨fun h => ?_, fun h => absurd (of_decide_eq_true h) (by omega)⟩
  refine ⟨[.ro, .ro], .bool true, [none, none], by simp only [GLibMod.toRo_ows ((GLib.mk (dropV aL.mods aName).1).mods) fun x _ => GLibMod.toRo_ow x]; exact eq_Lib (GLib.mk (dropV aL.mods aName).1) hR, ⟨trivial, trivial⟩, ?_⟩
  refine ⟨fun h => ?_, fun h => Bool.noConfusion h⟩
  first | refine ⟨fun h => absurd h (by simp), fun h => ?_⟩ | refine ⟨by kernel_rfl, fun h => absurd h (by simp), fun h => ?_⟩
  refine ⟨[.muta [2], .ro], .int .i64 (1 + GLib.tw (GLib.mk (dropV aL.mods aName).1)), [some (.agg (GLib.outs (GLib.mk (dropV aL.mods aName).1) 1)), none], mark_Lib (GLib.mk (dropV aL.mods aName).1) 1 (by omega) (by omega) hR, trivial, ?_⟩
  refine ⟨[.ro, .ro], .int .i64 (1 + GLib.tw (GLib.mk (dropV aL.mods aName).1)), [none, none], held_Lib (GLib.mk (dropV aL.mods aName).1) 1 (by omega) (by omega) hR, ⟨trivial, trivial⟩, ?_⟩
  first | refine ⟨fun h => absurd (of_decide_eq_true h) (by omega), fun h => ?_⟩ | refine ⟨by kernel_rfl, fun h => absurd (of_decide_eq_true h) (by omega), fun h => ?_⟩
  first | refine ⟨fun h => absurd rfl (of_decide_eq_true h), fun h => ?_⟩ | refine ⟨by kernel_rfl, fun h => absurd rfl (of_decide_eq_true h), fun h => ?_⟩
  refine ⟨[.ro], .agg (GLib.ow aL), [none], to_Lib aL q_aL, trivial, ?_⟩
  refine ⟨[.ro, .ro], .tup [.agg (GLib.ow (GLib.mk (dropV aL.mods aName).1)), .bool ((dropV aL.mods aName).2)], [none, none], by simp only [GLibMod.toRo_ows aL.mods fun x _ => GLibMod.toRo_ow x]; exact impl_LibDrop aL aName q_aL ho_aL, ⟨⟨GLib.noRo_ow (GLib.mk (dropV aL.mods aName).1), trivial, trivial⟩, trivial⟩, ?_⟩
  try refine ⟨by kernel_rfl, ?_⟩
  refine ⟨[.ro, .ro], .bool true, [none, none], by simp only [GLibMod.toRo_ows ((GLib.mk (dropV aL.mods aName).1).mods) fun x _ => GLibMod.toRo_ow x]; exact eq_Lib (GLib.mk (dropV aL.mods aName).1) hR, ⟨trivial, trivial⟩, ?_⟩
  refine ⟨fun h => ?_, fun h => Bool.noConfusion h⟩
  first | refine ⟨fun h => absurd h (by simp), fun h => ?_⟩ | refine ⟨by kernel_rfl, fun h => absurd h (by simp), fun h => ?_⟩
  refine ⟨[.ro, .ro], .int .i64 (1 + GLib.tw (GLib.mk (dropV aL.mods aName).1)), [none, none], held_Lib (GLib.mk (dropV aL.mods aName).1) 1 (by omega) (by omega) hR, ⟨trivial, trivial⟩, ?_⟩
  first | refine ⟨fun h => absurd (of_decide_eq_true h) (by omega), fun h => ?_⟩ | refine ⟨by kernel_rfl, fun h => absurd (of_decide_eq_true h) (by omega), fun h => ?_⟩
  first | refine ⟨fun h => absurd rfl (of_decide_eq_true h), fun h => ?_⟩ | refine ⟨by kernel_rfl, fun h => absurd rfl (of_decide_eq_true h), fun h => ?_⟩
  exact ⟨.refl _, trivial⟩
end Go.Proofs.VI
