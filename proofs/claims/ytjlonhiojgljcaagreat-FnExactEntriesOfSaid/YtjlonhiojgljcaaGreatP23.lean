/- Contracts of functions, and what they rest on: law FnExactEntriesOf. -/
import Derived.Test.YtjlonhiojgljcaaGreatN3
set_option linter.unusedVariables false
set_option linter.unusedSimpArgs false
set_option maxRecDepth 10000
set_option maxHeartbeats 4000000
namespace Go.Proofs.VI
open Go
theorem law_ExactEntriesOf (aL : GLib) (ho_aL : GLib.ok aL) : Con 3 [.agg (GLib.ro aL)] (.bool true) [none] := by
  refine con Tryz.func3 ?_
  refine ⟨[.ro, .ro], .int .i64 (szV 1048576 (GLib.bulk aL)), [none, none], sz_Lib aL 1048576 (by omega) (by omega) ho_aL, trivial, ?_⟩
  refine ⟨fun h => ⟨.refl _, trivial⟩, fun h => ?_⟩
  simp only [decide_eq_true_eq, decide_eq_false_iff_not] at h
  obtain ⟨e1, e1'⟩ := szV_nneg h
  have q_aL := GLib.fit_of aL (by omega)
  have m_aL := GLib.tw4 aL
  have hl9 := entriesV_len aL.mods
  have hR : (entriesV aL.mods).length ≤ 1099511627776 ∧ ∀ y ∈ entriesV aL.mods, GString.fit y := ⟨by omega, fun _ _ => trivial⟩
  have hcR := cnt_String (entriesV aL.mods)
  refine ⟨[.ro], .agg (GLib.ow aL), [none], to_Lib aL q_aL, trivial, ?_⟩
  refine ⟨[.frz], .ro 1 (GString.ros (entriesV aL.mods)), [none], by simp only [GLibMod.toRo_ows aL.mods fun x _ => GLibMod.toRo_ow x]; exact spec_EntriesOf aL q_aL ho_aL, trivial, ?_⟩
  try refine ⟨by kernel_rfl, ?_⟩
  refine ⟨[.ro], .agg (GLib.ow aL), [none], to_Lib aL q_aL, trivial, ?_⟩
  refine ⟨[.ro], .ow 1 (GString.ows (entriesV aL.mods)), [none], by simp only [GLibMod.toRo_ows aL.mods fun x _ => GLibMod.toRo_ow x]; exact impl_EntriesOf aL q_aL ho_aL, ⟨GString.noRo_ows (entriesV aL.mods) fun x _ => GString.noRo_ow x, trivial⟩, ?_⟩
  try refine ⟨by kernel_rfl, ?_⟩
  refine ⟨[.ro, .ro], .bool true, [none, none], by simp only [GString.toRo_ows (entriesV aL.mods) fun x _ => GString.toRo_ow x]; exact eq_StringS (entriesV aL.mods) hR.1 hR.2, ⟨trivial, trivial⟩, ?_⟩
  first | refine ⟨fun h => Bool.noConfusion h, fun h => ?_⟩ | refine ⟨by kernel_rfl, fun h => Bool.noConfusion h, fun h => ?_⟩
  refine ⟨[.ro], .agg (GLib.ow aL), [none], to_Lib aL q_aL, trivial, ?_⟩
  refine ⟨[.ro, .ro], .bool true, [none, none], by simp only [GLibMod.toRo_ows aL.mods fun x _ => GLibMod.toRo_ow x]; exact eq_Lib aL q_aL, ⟨trivial, trivial⟩, ?_⟩
  first | refine ⟨fun h => Bool.noConfusion h, fun h => ?_⟩ | refine ⟨by kernel_rfl, fun h => Bool.noConfusion h, fun h => ?_⟩
  refine ⟨[.muta [2], .ro], .int .i64 (1 + GLib.tw aL), [some (.agg (GLib.outs aL 1)), none], mark_Lib aL 1 (by omega) (by omega) q_aL, trivial, ?_⟩
  refine ⟨fun h => ?_, fun h => absurd (of_decide_eq_true h) (by omega)⟩
  refine ⟨[.ro, .ro], .bool true, [none, none], by simp only [GString.toRo_ows (entriesV aL.mods) fun x _ => GString.toRo_ow x]; exact eq_StringS (entriesV aL.mods) hR.1 hR.2, ⟨trivial, trivial⟩, ?_⟩
  first | refine ⟨fun h => Bool.noConfusion h, fun h => ?_⟩ | refine ⟨by kernel_rfl, fun h => Bool.noConfusion h, fun h => ?_⟩
  refine ⟨[.muts 1, .ro], .int .i64 (1 + cntS GString.w (entriesV aL.mods)), [some (.ow 1 (GString.ows (markS GString.mark GString.w (entriesV aL.mods) 1))), none], mark_StringS (entriesV aL.mods) 1 (by omega) (by omega) hR.1, trivial, ?_⟩
  refine ⟨[.ro, .ro], .int .i64 (1 + cntS GString.w (entriesV aL.mods)), [none, none], by simp only [GString.toRo_ows (markS GString.mark GString.w (entriesV aL.mods) 1) fun x _ => GString.toRo_ow x]; exact held_StringS (entriesV aL.mods) 1 (by omega) (by omega) hR.1, ⟨trivial, trivial⟩, ?_⟩
  first | refine ⟨fun h => absurd (of_decide_eq_true h) (by omega), fun h => ?_⟩ | refine ⟨by kernel_rfl, fun h => absurd (of_decide_eq_true h) (by omega), fun h => ?_⟩
  first | refine ⟨fun h => absurd rfl (of_decide_eq_true h), fun h => ?_⟩ | refine ⟨by kernel_rfl, fun h => absurd rfl (of_decide_eq_true h), fun h => ?_⟩
  refine ⟨[.ro], .agg (GLib.ow aL), [none], to_Lib aL q_aL, trivial, ?_⟩
  refine ⟨[.ro], .ow 1 (GString.ows (entriesV aL.mods)), [none], by simp only [GLibMod.toRo_ows aL.mods fun x _ => GLibMod.toRo_ow x]; exact impl_EntriesOf aL q_aL ho_aL, ⟨GString.noRo_ows (entriesV aL.mods) fun x _ => GString.noRo_ow x, trivial⟩, ?_⟩
  try refine ⟨by kernel_rfl, ?_⟩
  refine ⟨[.ro, .ro], .bool true, [none, none], by simp only [GString.toRo_ows (entriesV aL.mods) fun x _ => GString.toRo_ow x]; exact eq_StringS (entriesV aL.mods) hR.1 hR.2, ⟨trivial, trivial⟩, ?_⟩
  first | refine ⟨fun h => Bool.noConfusion h, fun h => ?_⟩ | refine ⟨by kernel_rfl, fun h => Bool.noConfusion h, fun h => ?_⟩
  refine ⟨[.ro, .ro], .int .i64 (1 + cntS GString.w (entriesV aL.mods)), [none, none], by simp only [GString.toRo_ows (markS GString.mark GString.w (entriesV aL.mods) 1) fun x _ => GString.toRo_ow x]; exact held_StringS (entriesV aL.mods) 1 (by omega) (by omega) hR.1, ⟨trivial, trivial⟩, ?_⟩
  first | refine ⟨fun h => absurd (of_decide_eq_true h) (by omega), fun h => ?_⟩ | refine ⟨by kernel_rfl, fun h => absurd (of_decide_eq_true h) (by omega), fun h => ?_⟩
  first | refine ⟨fun h => absurd rfl (of_decide_eq_true h), fun h => ?_⟩ | refine ⟨by kernel_rfl, fun h => absurd rfl (of_decide_eq_true h), fun h => ?_⟩
  exact ⟨.refl _, trivial⟩
end Go.Proofs.VI
