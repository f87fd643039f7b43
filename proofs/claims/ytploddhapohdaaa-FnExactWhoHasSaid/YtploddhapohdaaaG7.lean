/- Contracts of functions, and what they rest on: l18who. -/
import Derived.Test.YtploddhapohdaaaG6
set_option linter.unusedVariables false
set_option linter.unusedSimpArgs false
set_option maxRecDepth 10000
set_option maxHeartbeats 4000000
namespace Go.Proofs.VI
open Go
noncomputable def hasM (s : ByteArray) (m : GLibMod) : Bool := hasG (gO (modO m.b)).1 s
noncomputable def whoHas (l : List GLibMod) (s : ByteArray) : Int := if libE l = true then idxOf (hasM s) l else -1
theorem impl_WhoHas (a : GLib) (s : ByteArray) (fa : GLib.fit a) (oa : GLib.ok a) : Con 26 [.agg (GLib.ro a), .str s] (.int .i64 (whoHas a.mods s)) [none, none] := by
  have ua := GLib.fit_un fa
  have lm : (GLibMod.ros a.mods).length = a.mods.length := by simp
  refine con Try.func26 ?_
  refine ⟨[.ro], .bool (libE a.mods), [none], impl_LibOk a fa oa, trivial, fun h => ⟨.of_eq (congrArg (AV.int .i64) ?_), trivial⟩, fun h => ?_⟩ <;> simp only [Bool.not_eq_true', Bool.not_eq_false'] at h
  · rw [whoHas, if_neg (by rw [h]; simp)]
  · rw [whoHas, if_pos h]
    refine ⟨{ i : Nat // i ≤ a.mods.length ∧ i ≤ a.mods.findIdx (hasM s) }, fun i => ⟨[(1, .str s), (13, .ro 2 (GLibMod.ros a.mods)), (14, .int .i64 a.mods.length), (15, .int .i64 i.1)], []⟩, fun i => a.mods.length - i.1, ⟨0, Nat.zero_le _, Nat.zero_le _⟩, ?_, ?_⟩
    · exact ⟨rfl, rfl, congrArg (AV.int .i64) (by rw [lm]), rfl, trivial⟩
    · rintro ⟨i, hi, hb⟩
      dsimp only
      refine ⟨fun h => ?_, fun h => ⟨.of_eq (congrArg (AV.int .i64) ?_), trivial⟩⟩ <;> simp only [decide_eq_true_eq, decide_eq_false_iff_not] at h
      · have hi : i < a.mods.length := by omega
        have um := GLibMod.fit_un (ua.2 _ (List.getElem_mem hi))
        refine ⟨Int.natCast_nonneg _, _, mod_row hi, ?_⟩
        refine ⟨[.ro], .tup [.agg (GObj.ow (gO (modO a.mods[i].b)).1), .bool (gO (modO a.mods[i].b)).2], [none], impl_GetObj a.mods[i].b um.1, trivial, ?_⟩
        refine ⟨[.ro, .ro], .bool (hasM s a.mods[i]), [none, none], (by rw [obj_toRo]; exact impl_hasGlob _ s (gO_fit _)), ⟨trivial, trivial⟩, fun h => ⟨.of_eq (congrArg (AV.int .i64) ?_), trivial⟩, fun h => ?_⟩
        · exact (idxOf_hit _ _ i hi hb h).symm
        · exact ⟨⟨i + 1, hi, idxOf_step _ _ i hi hb h⟩, Nat.sub_succ_lt_self _ _ hi, (by (repeat' (first | exact trivial | (refine And.intro (congrArg (AV.int .i64) (w64 ?_ ?_)) ?_; omega; omega) | refine And.intro rfl ?_ | refine And.intro (SimRows.refl _) ?_ | (refine And.intro (SimRows.of_eq ?_) ?_; (first | assumption | rfl)) | (refine And.intro (congrArg (AV.int .i64) ?_) ?_; (first | assumption | omega)) | fail)); done)⟩
      · rw [idxOf_miss _ _ (by omega)]
theorem spec_WhoHas (a : GLib) (s : ByteArray) (fa : GLib.fit a) (oa : GLib.ok a) : Con 25 [.agg (GLib.ro a), .str s] (.int .i64 (whoHas a.mods s)) [none, none] := by
  have ua := GLib.fit_un fa
  have lm : (GLibMod.ros a.mods).length = a.mods.length := by simp
  refine con Try.func25 ?_
  refine ⟨{ i : Nat // i ≤ a.mods.length ∧ i ≤ a.mods.findIdx (hasM s) }, fun i => ⟨[(1, .str s), (2, .ptr 0 0 0), (5, .int .i64 i.1)], [(0, .box (GLib.ro a) [])]⟩, fun i => a.mods.length - i.1, ⟨0, Nat.zero_le _, Nat.zero_le _⟩, ?_, ?_⟩
  · exact ⟨rfl, rfl, rfl, rfl, .refl _, trivial⟩
  · rintro ⟨i, hi, hb⟩
    dsimp only
    refine ⟨fun h => ⟨[.ro], .bool (libE a.mods), [none], spec_LibOk a fa oa, trivial, fun h2 => ?_, fun h2 => ⟨.of_eq (congrArg (AV.int .i64) ?_), trivial⟩⟩, fun h => ⟨.of_eq (congrArg (AV.int .i64) ?_), trivial⟩⟩ <;> simp only [lm, decide_eq_true_eq, decide_eq_false_iff_not] at h
    · have hi : i < a.mods.length := by omega
      have um := GLibMod.fit_un (ua.2 _ (List.getElem_mem hi))
      rw [whoHas, if_pos h2]
      refine ⟨Int.natCast_nonneg _, _, mod_row hi, ?_⟩
      refine ⟨[.ro], .tup [.agg (GObj.ow (gO (modO a.mods[i].b)).1), .bool (gO (modO a.mods[i].b)).2], [none], spec_GetObj a.mods[i].b um.1, trivial, ?_⟩
      refine ⟨[.ro, .ro], .bool (hasM s a.mods[i]), [none, none], (by rw [obj_toRo]; exact spec_l18Has _ s (gO_fit _)), ⟨trivial, trivial⟩, fun h => ⟨.of_eq (congrArg (AV.int .i64) ?_), trivial⟩, fun h => ?_⟩
      · exact (idxOf_hit _ _ i hi hb h).symm
      · exact ⟨⟨i + 1, hi, idxOf_step _ _ i hi hb h⟩, Nat.sub_succ_lt_self _ _ hi, (by (repeat' (first | exact trivial | (refine And.intro (congrArg (AV.int .i64) (w64 ?_ ?_)) ?_; omega; omega) | refine And.intro rfl ?_ | refine And.intro (SimRows.refl _) ?_ | (refine And.intro (SimRows.of_eq ?_) ?_; (first | assumption | rfl)) | (refine And.intro (congrArg (AV.int .i64) ?_) ?_; (first | assumption | omega)) | fail)); done)⟩
    · rw [whoHas, if_neg (by rw [h2]; simp)]
    · rw [whoHas]
      split
      · rw [idxOf_miss _ _ (by omega)]
      · rfl
end Go.Proofs.VI
