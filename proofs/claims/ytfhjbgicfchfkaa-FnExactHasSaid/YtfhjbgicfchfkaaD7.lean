/- Contracts. -/
import Derived.Test.YtfhjbgicfchfkaaD2
set_option linter.unusedVariables false
set_option linter.unusedSimpArgs false
set_option maxRecDepth 10000
namespace Go.Proofs.VI
open Go
def sizeSum (l : List GSect) : Nat := cntS (fun s : GSect => 2 * s.words.length) l
theorem spec_SizeOf (a : GObj) (hf : GObj.fit a) (hb : sizeSum a.sects ≤ 1152921504606846976) : Con 28 [.agg (GObj.ro a)] (.int .i64 (sizeSum a.sects : Int)) [none] := by
  refine con Try.func28 ?_
  obtain ⟨f0, f1⟩ := GObj.fit_un hf
  have hlen : (GSect.ros a.sects).length = a.sects.length := by simp
  refine ⟨{ i : Nat // i ≤ a.sects.length }, fun i => ⟨[(1, .ptr 0 0 0), (3, .int .i64 (sizeSum (a.sects.take i.1) : Int)), (4, .int .i64 i.1)], [(0, .box (GObj.ro a) [])]⟩, fun i => a.sects.length - i.1, ⟨0, by omega⟩, ?_, ?_⟩
  · exact ⟨rfl, rfl, rfl, rfl, .refl _, trivial⟩
  · rintro ⟨i, hi⟩
    dsimp only
    refine ⟨fun h => ?_, fun h => ?_⟩ <;> simp only [hlen, decide_eq_true_eq, decide_eq_false_iff_not] at h
    · have hi : i < a.sects.length := by omega
      have hc := cntS_take_succ (fun s : GSect => 2 * s.words.length) a.sects i hi
      have hc2 := cntS_take_le (fun s : GSect => 2 * s.words.length) a.sects (i + 1)
      simp only [sizeSum] at hb hc hc2
      have hw : (GExpr.ros a.sects[i].words).length = a.sects[i].words.length := by rw [GExpr.ros_eq, List.length_map]
      have e1 : IntKind.wrap .i64 (2 * ((GExpr.ros a.sects[i].words).length : Int)) = 2 * a.sects[i].words.length := by rw [hw]; exact w64 (by omega) (by omega)
      have e2 : IntKind.wrap .i64 ((sizeSum (a.sects.take i) : Int) + 2 * a.sects[i].words.length) = sizeSum (a.sects.take (i + 1)) := by simp only [sizeSum]; rw [w64 (by omega) (by omega)]; omega
      refine ⟨Int.natCast_nonneg _, _, map_get (f := GSect.ro) _ _ hi, ?_⟩
      refine ⟨⟨i + 1, by omega⟩, by dsimp only; omega, rfl, rfl, congrArg (AV.int .i64) (by rw [e1, e2]), congrArg (AV.int .i64) (w64 (by omega) (by omega)), .refl _, trivial⟩
    · refine ⟨.i64 ?_, trivial⟩
      rw [List.take_of_length_le (by omega)]
theorem impl_SizeOf (a : GObj) (hf : GObj.fit a) (hb : sizeSum a.sects ≤ 1152921504606846976) : Con 30 [.agg (GObj.ro a)] (.int .i64 (sizeSum a.sects : Int)) [none] := by
  refine con Try.func30 ?_
  obtain ⟨f0, f1⟩ := GObj.fit_un hf
  have hlen : (GSect.ros a.sects).length = a.sects.length := by simp
  refine ⟨{ i : Nat // i ≤ a.sects.length }, fun i => ⟨[(3, .int .i64 (sizeSum (a.sects.take i.1) : Int)), (7, .ro 3 (GSect.ros a.sects)), (8, .int .i64 a.sects.length), (9, .int .i64 i.1)], []⟩, fun i => a.sects.length - i.1, ⟨0, by omega⟩, ?_, ?_⟩
  · exact ⟨rfl, rfl, congrArg (AV.int .i64) (by rw [hlen]), rfl, trivial⟩
  · rintro ⟨i, hi⟩
    dsimp only
    refine ⟨fun h => ?_, fun h => ?_⟩ <;> simp only [hlen, decide_eq_true_eq, decide_eq_false_iff_not] at h
    · have hi : i < a.sects.length := by omega
      have hc := cntS_take_succ (fun s : GSect => 2 * s.words.length) a.sects i hi
      have hc2 := cntS_take_le (fun s : GSect => 2 * s.words.length) a.sects (i + 1)
      simp only [sizeSum] at hb hc hc2
      have hw : (GExpr.ros a.sects[i].words).length = a.sects[i].words.length := by rw [GExpr.ros_eq, List.length_map]
      have e1 : IntKind.wrap .i64 (2 * ((GExpr.ros a.sects[i].words).length : Int)) = 2 * a.sects[i].words.length := by rw [hw]; exact w64 (by omega) (by omega)
      have e2 : IntKind.wrap .i64 ((sizeSum (a.sects.take i) : Int) + 2 * a.sects[i].words.length) = sizeSum (a.sects.take (i + 1)) := by simp only [sizeSum]; rw [w64 (by omega) (by omega)]; omega
      refine ⟨Int.natCast_nonneg _, _, map_get (f := GSect.ro) _ _ hi, ?_⟩
      refine ⟨⟨i + 1, by omega⟩, by dsimp only; omega, congrArg (AV.int .i64) (by rw [e1, e2]), rfl, rfl, congrArg (AV.int .i64) (w64 (by omega) (by omega)), trivial⟩
    · refine ⟨.i64 ?_, trivial⟩
      rw [List.take_of_length_le (by omega)]
theorem sizeSum_le (l : List GSect) : sizeSum l ≤ 2 * bulkS GSect.bulk l := by
  induction l with
  | nil => simp [sizeSum, cntS]
  | cons s l ih =>
    have := bulkS_len GExpr.bulk s.words
    simp only [sizeSum, cntS, bulkS, GSect.bulk] at ih ⊢
    omega
end Go.Proofs.VI
