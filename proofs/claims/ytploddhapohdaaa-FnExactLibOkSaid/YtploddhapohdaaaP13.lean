/- Contracts of functions, and what they rest on: law FnExactLibOk. -/
import Derived.Test.YtploddhapohdaaaG5
set_option linter.unusedVariables false
set_option linter.unusedSimpArgs false
set_option maxRecDepth 10000
set_option maxHeartbeats 4000000
namespace Go.Proofs.VI
open Go
theorem law_ExactLibOk (aL : GLib) (ho_aL : GLib.ok aL) : Con 5 [.agg (GLib.ro aL)] (.bool true) [none] := by
  refine con Try.func5 ?_
  refine ⟨[.ro, .ro], .int .i64 (szV 1048576 (GLib.bulk aL)), [none, none], sz_Lib aL 1048576 (by omega) (by omega) ho_aL, trivial, ?_⟩
  refine ⟨fun h => ⟨.refl _, trivial⟩, fun h => ?_⟩
  simp only [decide_eq_true_eq, decide_eq_false_iff_not] at h
  obtain ⟨e1, e1'⟩ := szV_nneg h
  have q_aL := GLib.fit_of aL (by omega)
  have m_aL := GLib.tw4 aL
  refine ⟨[.ro], .agg (GLib.ow aL), [none], to_Lib aL q_aL, trivial, ?_⟩
  refine ⟨[.ro], .bool (libE aL.mods), [none], by simp only [GLibMod.toRo_ows aL.mods fun x _ => GLibMod.toRo_ow x]; exact spec_LibOk aL q_aL ho_aL, ⟨trivial, trivial⟩, ?_⟩
  try refine ⟨by kernel_rfl, ?_⟩
  refine ⟨[.ro], .agg (GLib.ow aL), [none], to_Lib aL q_aL, trivial, ?_⟩
  refine ⟨[.ro], .bool (libE aL.mods), [none], by simp only [GLibMod.toRo_ows aL.mods fun x _ => GLibMod.toRo_ow x]; exact impl_LibOk aL q_aL ho_aL, ⟨trivial, trivial⟩, ?_⟩
  try refine ⟨by kernel_rfl, ?_⟩
  first | refine ⟨fun h => absurd h (by simp), fun h => ?_⟩ | refine ⟨by kernel_rfl, fun h => absurd h (by simp), fun h => ?_⟩
  refine ⟨[.ro], .agg (GLib.ow aL), [none], to_Lib aL q_aL, trivial, ?_⟩
  refine ⟨[.ro, .ro], .bool true, [none, none], by simp only [GLibMod.toRo_ows aL.mods fun x _ => GLibMod.toRo_ow x]; exact eq_Lib aL q_aL, ⟨trivial, trivial⟩, ?_⟩
  first | refine ⟨fun h => Bool.noConfusion h, fun h => ?_⟩ | refine ⟨by kernel_rfl, fun h => Bool.noConfusion h, fun h => ?_⟩
  exact ⟨.refl _, trivial⟩
end Go.Proofs.VI
