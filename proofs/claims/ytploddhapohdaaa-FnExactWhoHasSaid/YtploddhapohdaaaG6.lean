/- Contracts of functions, and what they rest on: l18. -/
import Derived.Test.YtploddhapohdaaaG5
set_option linter.unusedVariables false
set_option linter.unusedSimpArgs false
set_option maxRecDepth 10000
set_option maxHeartbeats 4000000
namespace Go.Proofs.VI
open Go
def hasG (o : GObj) (s : ByteArray) : Bool := o.globs.any fun g => decide (g.name = s)
def hasL (l : List GObj) (s : ByteArray) : Bool := l.any fun o => hasG o s
theorem spec_l18Has (a : GObj) (s : ByteArray) (hf : GObj.fit a) : Con 60 [.agg (GObj.ro a), .str s] (.bool (hasG a s)) [none, none] := by
  refine con Try.func60 ?_
  obtain ⟨f0, f1⟩ := GObj.fit_un hf
  have hlen : (GGlob.ros a.globs).length = a.globs.length := by simp
  refine ⟨{ i : Nat // i ≤ a.globs.length ∧ (a.globs.take i).any (fun g => decide (g.name = s)) = false }, fun i => ⟨[(1, .str s), (2, .ptr 0 0 0), (5, .int .i64 i.1)], [(0, .box (GObj.ro a) [])]⟩, fun i => a.globs.length - i.1, ⟨0, by omega, rfl⟩, ?_, ?_⟩
  · exact ⟨rfl, rfl, rfl, rfl, .refl _, trivial⟩
  · rintro ⟨i, hi, ha⟩
    dsimp only
    refine ⟨fun h => ?_, fun h => ⟨.of_eq (congrArg AV.bool ?_), trivial⟩⟩ <;> simp only [hlen, decide_eq_true_eq, decide_eq_false_iff_not] at h
    · have hi : i < a.globs.length := by omega
      refine ⟨Int.natCast_nonneg _, _, map_get (f := GGlob.ro) _ _ hi, fun h => ⟨.of_eq (congrArg AV.bool ?_), trivial⟩, fun h => ?_⟩
      · exact (any_hit _ a.globs i hi h).symm
      · exact ⟨⟨i + 1, by omega, any_step _ a.globs i hi ha h⟩, by dsimp only; omega, rfl, rfl, rfl, congrArg (AV.int .i64) (w64 (by omega) (by omega)), .refl _, trivial⟩
    · exact (any_miss _ a.globs i (by omega) ha).symm
theorem impl_hasGlob1 (g : GGlob) (s : ByteArray) : Con 92 [.agg (GGlob.ro g), .rp [.str s] 0] (.bool (decide (g.name = s))) [none, none] := by
  refine con Try.func92 ?_
  exact ⟨.refl _, trivial⟩
theorem indexGlob (l : List GGlob) (s : ByteArray) (hl : l.length ≤ 1099511627776) : Con 121 [.ro 5 (GGlob.ros l), .fn 92 [.rp [.str s] 0]] (.int .i64 (idxOf (fun g : GGlob => decide (g.name = s)) l)) [none, none] := by
  refine con Try.func121 ?_
  have hlen : (GGlob.ros l).length = l.length := by simp
  refine ⟨{ i : Nat // i ≤ l.length ∧ i ≤ l.findIdx (fun g : GGlob => decide (g.name = s)) }, fun i => ⟨[(0, .ro 5 (GGlob.ros l)), (1, .fn 92 [.rp [.str s] 0]), (7, .int .i64 l.length), (8, .int .i64 i.1)], []⟩, fun i => l.length - i.1, ⟨0, by omega, by omega⟩, ?_, ?_⟩
  · exact ⟨rfl, rfl, rfl, congrArg (AV.int .i64) (by rw [hlen]), rfl, trivial⟩
  · rintro ⟨i, hi, hf⟩
    dsimp only
    refine ⟨fun h => ?_, fun h => ⟨.i64 ?_, trivial⟩⟩ <;> simp only [decide_eq_true_eq, decide_eq_false_iff_not] at h
    · have hi : i < l.length := by omega
      refine ⟨Int.natCast_nonneg _, _, map_get (f := GGlob.ro) _ _ hi, [.ro, .ro], .bool (decide (l[i].name = s)), [none, none], impl_hasGlob1 l[i] s, trivial, fun h => ⟨.i64 ?_, trivial⟩, fun h => ?_⟩
      · exact (idxOf_hit _ l i hi hf h).symm
      · exact ⟨⟨i + 1, by omega, idxOf_step _ l i hi hf h⟩, by dsimp only; omega, rfl, rfl, rfl, rfl, congrArg (AV.int .i64) (w64 (by omega) (by omega)), trivial⟩
    · rw [idxOf_miss _ l (by omega)]
theorem containsGlob (l : List GGlob) (s : ByteArray) (hl : l.length ≤ 1099511627776) : Con 91 [.ro 5 (GGlob.ros l), .fn 92 [.rp [.str s] 0]] (.bool (l.any fun g => decide (g.name = s))) [none, none] := by
  refine con Try.func91 ?_
  refine ⟨[.ro, .ro], .int .i64 (idxOf (fun g : GGlob => decide (g.name = s)) l), [none, none], indexGlob l s hl, trivial, .of_eq (congrArg AV.bool ?_), trivial⟩
  exact idxOf_any _ l
theorem impl_hasGlob (a : GObj) (s : ByteArray) (hf : GObj.fit a) : Con 61 [.agg (GObj.ro a), .str s] (.bool (hasG a s)) [none, none] := by
  refine con Try.func61 ?_
  obtain ⟨f0, f1⟩ := GObj.fit_un hf
  exact ⟨[.ro, .ro], .bool (hasG a s), [none, none], containsGlob a.globs s f1.1, ⟨trivial, trivial⟩, .refl _, trivial⟩
end Go.Proofs.VI
