/- Contracts of functions, and what they rest on: l18get. -/
import Derived.Test.YtjlonhiojgljcaaGreatG5
import Derived.Test.YtjlonhiojgljcaaGreatA4
set_option linter.unusedVariables false
set_option linter.unusedSimpArgs false
set_option maxRecDepth 10000
set_option maxHeartbeats 4000000
namespace Go.Proofs.VI
open Go
theorem impl_modAt1 (m : GLibMod) (s : ByteArray) : Con 167 [.agg (GLibMod.ro m), .rp [.str s] 0] (.bool (decide (m.name = s))) [none, none] := by
  refine con Tryz.func167 ?_
  exact ⟨.refl _, trivial⟩
theorem index_Mod (l : List GLibMod) (s : ByteArray) (hl : l.length ≤ 1099511627776) : Con 166 [.ro 2 (GLibMod.ros l), .fn 167 [.rp [.str s] 0]] (.int .i64 (idxOf (fun m : GLibMod => decide (m.name = s)) l)) [none, none] := by
  rw [GLibMod.ros_eq]
  refine con Tryz.func166 ?_
  have hlen : (l.map GLibMod.ro).length = l.length := by simp
  refine ⟨{ i : Nat // i ≤ l.length ∧ i ≤ l.findIdx (fun m : GLibMod => decide (m.name = s)) }, fun i => ⟨[(0, .ro 2 (l.map GLibMod.ro)), (1, .fn 167 [.rp [.str s] 0]), (7, .int .i64 l.length), (8, .int .i64 i.1)], []⟩, fun i => l.length - i.1, ⟨0, by omega, by omega⟩, ?_, ?_⟩
  · exact ⟨rfl, rfl, rfl, congrArg (AV.int .i64) (by rw [hlen]), rfl, trivial⟩
  · rintro ⟨i, hi, hf⟩
    dsimp only
    refine ⟨fun h => ?_, fun h => ⟨.i64 ?_, trivial⟩⟩ <;> simp only [decide_eq_true_eq, decide_eq_false_iff_not] at h
    · have hi : i < l.length := by omega
      refine ⟨Int.natCast_nonneg _, _, map_get (f := GLibMod.ro) _ _ hi, [.ro, .ro], .bool ((fun m : GLibMod => decide (m.name = s)) l[i]), [none, none], impl_modAt1 l[i] s, trivial, fun h => ⟨.i64 ?_, trivial⟩, fun h => ?_⟩
      · exact (idxOf_hit _ l i hi hf h).symm
      · exact ⟨⟨i + 1, by omega, idxOf_step _ l i hi hf h⟩, by dsimp only; omega, rfl, rfl, rfl, rfl, congrArg (AV.int .i64) (w64 (by omega) (by omega)), trivial⟩
    · rw [idxOf_miss _ l (by omega)]

theorem impl_modAt (a : GLib) (s : ByteArray) (hl : a.mods.length ≤ 1099511627776) : Con 101 [.agg (GLib.ro a), .str s] (.int .i64 (idxOf (fun m : GLibMod => decide (m.name = s)) a.mods)) [none, none] := by
  refine con Tryz.func101 ?_
  exact ⟨[.ro, .ro], .int .i64 _, [none, none], index_Mod a.mods s hl, ⟨trivial, trivial⟩, .refl _, trivial⟩
end Go.Proofs.VI
