/- Contracts of functions, and what they rest on: law FnExactWhoHas. -/
import Derived.Test.YtploddhapohdaaaG7
set_option linter.unusedVariables false
set_option linter.unusedSimpArgs false
set_option maxRecDepth 10000
set_option maxHeartbeats 4000000
namespace Go.Proofs.VI
open Go
theorem law_ExactWhoHas (aL : GLib) (aGlob : ByteArray) (ho_aL : GLib.ok aL) (ho_aGlob : aGlob.size ≤ 9223372036854775807) : Con 6 [.agg (GLib.ro aL), .str aGlob] (.bool true) [none, none] := by
  refine con Try.func6 ?_
  refine ⟨fun h => ⟨.refl _, trivial⟩, fun h => ?_⟩
  have e1 := of_decide_eq_false h
  try simp only [List.length_map] at e1
  refine ⟨[.ro, .ro], .int .i64 (szV 1048576 (GLib.bulk aL)), [none, none], sz_Lib aL 1048576 (by omega) (by omega) ho_aL, trivial, ?_⟩
  refine ⟨fun h => ⟨.refl _, trivial⟩, fun h => ?_⟩
  simp only [decide_eq_true_eq, decide_eq_false_iff_not] at h
  obtain ⟨e2, e2'⟩ := szV_nneg h
  have q_aL := GLib.fit_of aL (by omega)
  have m_aL := GLib.tw4 aL
  refine ⟨[.ro], .agg (GLib.ow aL), [none], to_Lib aL q_aL, trivial, ?_⟩
  refine ⟨[.ro, .ro], .int .i64 (whoHas aL.mods aGlob), [none, none], by simp only [GLibMod.toRo_ows aL.mods fun x _ => GLibMod.toRo_ow x]; exact spec_WhoHas aL aGlob q_aL ho_aL, ⟨trivial, trivial⟩, ?_⟩
  try refine ⟨by kernel_rfl, ?_⟩
  refine ⟨[.ro], .agg (GLib.ow aL), [none], to_Lib aL q_aL, trivial, ?_⟩
  refine ⟨[.ro, .ro], .int .i64 (whoHas aL.mods aGlob), [none, none], by simp only [GLibMod.toRo_ows aL.mods fun x _ => GLibMod.toRo_ow x]; exact impl_WhoHas aL aGlob q_aL ho_aL, ⟨trivial, trivial⟩, ?_⟩
  try refine ⟨by kernel_rfl, ?_⟩
  first | refine ⟨fun h => absurd rfl (of_decide_eq_true h), fun h => ?_⟩ | refine ⟨by kernel_rfl, fun h => absurd rfl (of_decide_eq_true h), fun h => ?_⟩
  refine ⟨[.ro], .agg (GLib.ow aL), [none], to_Lib aL q_aL, trivial, ?_⟩
  refine ⟨[.ro, .ro], .bool true, [none, none], by simp only [GLibMod.toRo_ows aL.mods fun x _ => GLibMod.toRo_ow x]; exact eq_Lib aL q_aL, ⟨trivial, trivial⟩, ?_⟩
  first | refine ⟨fun h => Bool.noConfusion h, fun h => ?_⟩ | refine ⟨by kernel_rfl, fun h => Bool.noConfusion h, fun h => ?_⟩
  exact ⟨.refl _, trivial⟩
end Go.Proofs.VI
