/- Contracts of functions, and what they rest on: harness. -/
import Derived.Test.YtkbdnmmnnkoenaaD1
import Derived.Test.YtkbdnmmnnkoenaaT
set_option linter.unusedVariables false
set_option linter.unusedSimpArgs false
set_option maxRecDepth 10000
set_option maxHeartbeats 4000000
namespace Go.Proofs.VI
open Go
theorem sz_IntS (l : List GInt) (left : Int) (h0 : 0 ≤ left) (h1 : left ≤ 1048576) (hl : l.length ≤ 9223372036854775807) (hs : ∀ x ∈ l, GInt.ok x) :
    Con 45 [.ro 1 (GInt.ros l), .int .i64 left] (.int .i64 (szV left (bulkS GInt.bulk l))) [none, none] := by
  rw [GInt.ros_eq]
  refine con Try.func45 ?_
  have hlen : (l.map GInt.ro).length = l.length := by simp
  have hb := bulkS_len GInt.bulk l
  have hz : bulkS GInt.bulk l = l.length := bulkS_zero _ (fun _ => rfl) l
  refine ⟨fun h => ⟨.i64 ?_, trivial⟩, fun h => ⟨.i64 ?_, trivial⟩⟩ <;> (simp (disch := omega) only [hlen, w64, decide_eq_true_eq, decide_eq_false_iff_not] at h ⊢)
  · rw [szV_lt (by omega)]
  · rw [szV_ge (by omega)]; omega
theorem to_IntS (l : List GInt) (hl : l.length ≤ 1099511627776) (hf : ∀ x ∈ l, GInt.fit x) :
    Con 49 [.ro 1 (GInt.ros l)] (.ow 1 (GInt.ows l)) [none] := by
  rw [GInt.ros_eq, GInt.ows_eq]
  refine con Try.func49 ?_
  have hlen : (l.map GInt.ro).length = l.length := by simp
  have hlen2 : (l.map GInt.ow).length = l.length := by simp
  refine ⟨rfl, Int.natCast_nonneg _, ?_, ?_⟩
  · show (((l.map GInt.ro).length : Int)) * 8 ≤ _
    omega
  refine ⟨{ i : Nat // i ≤ l.length }, fun i => ⟨[(0, .ro 1 (l.map GInt.ro)), (3, .own 0), (4, .int .i64 i.1)], [(0, .rows 1 ((l.map GInt.ow).take i.1 ++ List.replicate (l.length - i.1) [AV.int .i64 0]) [])]⟩, fun i => l.length - i.1, ⟨0, by omega⟩, ?_, ?_⟩
  · refine ⟨rfl, rfl, rfl, .of_eq ?_, trivial⟩
    show List.replicate (Int.toNat ((l.map GInt.ro).length : Int)) [AV.int .i64 0] = List.replicate (l.length - 0) [AV.int .i64 0]
    rw [hlen]; rfl
  · rintro ⟨i, hi⟩
    dsimp only
    refine ⟨fun h => ?_, fun h => ?_⟩ <;> simp only [hlen, decide_eq_true_eq, decide_eq_false_iff_not] at h
    · have hi : i < l.length := by omega
      have hlt : i < ((l.map GInt.ow).take i ++ List.replicate (l.length - i) ([AV.int .i64 0] : List AV)).length := by simp; omega
      refine ⟨Int.natCast_nonneg _, _, map_get _ _ hi, Int.natCast_nonneg _, ?_, [AV.int .i64 0], get_take_repl _ _ _ _ hi hlen2.symm, ⟨i + 1, by omega⟩, ?_, ?_⟩
      · simp; omega
      · dsimp only; omega
      · refine ⟨rfl, congrArg (AV.int .i64) (w64 (by omega) (by omega)), rfl, .of_eq ?_, trivial⟩
        have e := set_take_repl (l.map GInt.ow) [AV.int .i64 0] i l.length (by simpa using hi) hlen2.symm
        rw [List.getElem_map] at e
        exact e
    · refine ⟨.of_eq (congrArg (AV.ow 1) ?_), trivial⟩
      rw [show i = l.length by omega, Nat.sub_self, List.replicate_zero, List.append_nil, List.take_of_length_le (by simp)]
theorem eq_IntS (l : List GInt) (hl : l.length ≤ 1099511627776) (hf : ∀ x ∈ l, GInt.fit x) :
    Con 50 [.ro 1 (GInt.ros l), .ro 1 (GInt.ros l)] (.bool true) [none, none] := by
  rw [GInt.ros_eq]
  refine con Try.func50 ?_
  have hlen : (l.map GInt.ro).length = l.length := by simp
  refine ⟨fun h => absurd rfl (of_decide_eq_true h), fun h => ?_⟩
  refine ⟨{ i : Nat // i ≤ l.length }, fun i => ⟨[(0, .ro 1 (l.map GInt.ro)), (1, .ro 1 (l.map GInt.ro)), (5, .int .i64 i.1)], []⟩, fun i => l.length - i.1, ⟨0, by omega⟩, ?_, ?_⟩
  · exact ⟨rfl, rfl, rfl, trivial⟩
  · rintro ⟨i, hi⟩
    dsimp only
    refine ⟨fun h => ?_, fun h => ?_⟩ <;> simp only [hlen, decide_eq_true_eq, decide_eq_false_iff_not] at h
    · have hi : i < l.length := by omega
      refine ⟨Int.natCast_nonneg _, _, map_get _ _ hi, Int.natCast_nonneg _, _, map_get _ _ hi, rfl, fun h => absurd rfl (of_decide_eq_true h), fun h => ⟨⟨i + 1, by omega⟩, by dsimp only; omega, rfl, rfl, congrArg (AV.int .i64) (w64 (by omega) (by omega)), trivial⟩⟩
    · exact ⟨.refl _, trivial⟩
theorem sz_Mach (a : GMach) (left : Int) (h0 : 0 ≤ left) (h1 : left ≤ 1048576) (ho : GMach.ok a) :
    Con 19 [.agg (GMach.ro a), .int .i64 left] (.int .i64 (szV left (GMach.bulk a))) [none, none] := by
  refine con Try.func19 ?_
  have hB := GMach.bulk_un a
  obtain ⟨o0, o1, o2, o3, o4, o5, o6, o7, o8⟩ := GMach.ok_un ho
  refine ⟨[.ro, .ro], .int .i64 (szV left (bulkS GInt.bulk a.mem)), [none, none], sz_IntS a.mem left (by omega) (by omega) o0.1 o0.2, trivial, ?_⟩
  refine ⟨fun h => ⟨.i64 ?_, trivial⟩, fun h => ?_⟩ <;> simp only [decide_eq_true_eq, decide_eq_false_iff_not] at h
  · have := szV_neg (by omega) h
    rw [szV_lt (by omega)]
  have e0 := szV_nneg h
  refine ⟨[.ro, .ro], .int .i64 (szV (szV left (bulkS GInt.bulk a.mem)) (bulkS GInt.bulk a.r)), [none, none], sz_IntS a.r (szV left (bulkS GInt.bulk a.mem)) (by omega) (by omega) o1.1 o1.2, trivial, ?_⟩
  refine ⟨fun h => ⟨.i64 ?_, trivial⟩, fun h => ?_⟩ <;> simp only [decide_eq_true_eq, decide_eq_false_iff_not] at h
  · have := szV_neg (by omega) h
    rw [szV_lt (by omega)]
  have e1 := szV_nneg h
  refine ⟨[.ro, .ro], .int .i64 (szV (szV (szV left (bulkS GInt.bulk a.mem)) (bulkS GInt.bulk a.r)) (bulkS GInt.bulk a.inp)), [none, none], sz_IntS a.inp (szV (szV left (bulkS GInt.bulk a.mem)) (bulkS GInt.bulk a.r)) (by omega) (by omega) o6.1 o6.2, trivial, ?_⟩
  refine ⟨fun h => ⟨.i64 ?_, trivial⟩, fun h => ?_⟩ <;> simp only [decide_eq_true_eq, decide_eq_false_iff_not] at h
  · have := szV_neg (by omega) h
    rw [szV_lt (by omega)]
  have e6 := szV_nneg h
  refine ⟨[.ro, .ro], .int .i64 (szV (szV (szV (szV left (bulkS GInt.bulk a.mem)) (bulkS GInt.bulk a.r)) (bulkS GInt.bulk a.inp)) (bulkS GInt.bulk a.out)), [none, none], sz_IntS a.out (szV (szV (szV left (bulkS GInt.bulk a.mem)) (bulkS GInt.bulk a.r)) (bulkS GInt.bulk a.inp)) (by omega) (by omega) o7.1 o7.2, trivial, ?_⟩
  refine ⟨fun h => ⟨.i64 ?_, trivial⟩, fun h => ?_⟩ <;> simp only [decide_eq_true_eq, decide_eq_false_iff_not] at h
  · have := szV_neg (by omega) h
    rw [szV_lt (by omega)]
  have e7 := szV_nneg h
  refine ⟨.i64 ?_, trivial⟩
  rw [show szV left (GMach.bulk a) = _ from szV_ge (by omega)]; omega
theorem to_Mach (a : GMach) (hf : GMach.fit a) : Con 21 [.agg (GMach.ro a)] (.agg (GMach.ow a)) [none] := by
  refine con Try.func21 ?_
  obtain ⟨f0, f1, f6, f7⟩ := GMach.fit_un hf
  refine ⟨[.ro], .ow 1 (GInt.ows a.mem), [none], to_IntS a.mem f0.1 f0.2, trivial, ?_⟩
  refine ⟨[.ro], .ow 1 (GInt.ows a.r), [none], to_IntS a.r f1.1 f1.2, trivial, ?_⟩
  refine ⟨[.ro], .ow 1 (GInt.ows a.inp), [none], to_IntS a.inp f6.1 f6.2, trivial, ?_⟩
  refine ⟨[.ro], .ow 1 (GInt.ows a.out), [none], to_IntS a.out f7.1 f7.2, trivial, ?_⟩
  exact ⟨.refl _, trivial⟩
theorem eq_Mach (a : GMach) (hf : GMach.fit a) : Con 23 [.agg (GMach.ro a), .agg (GMach.ro a)] (.bool true) [none, none] := by
  refine con Try.func23 ?_
  obtain ⟨f0, f1, f6, f7⟩ := GMach.fit_un hf
  refine ⟨[.ro, .ro], .bool true, [none, none], eq_IntS a.mem f0.1 f0.2, trivial, ?_⟩
  refine ⟨fun h => Bool.noConfusion h, fun h => ?_⟩
  refine ⟨[.ro, .ro], .bool true, [none, none], eq_IntS a.r f1.1 f1.2, trivial, ?_⟩
  refine ⟨fun h => Bool.noConfusion h, fun h => ?_⟩
  refine ⟨fun h => absurd h (by cases a.n <;> decide), fun h => ?_⟩
  refine ⟨fun h => absurd h (by cases a.z <;> decide), fun h => ?_⟩
  refine ⟨fun h => absurd h (by cases a.v <;> decide), fun h => ?_⟩
  refine ⟨fun h => absurd h (by cases a.c <;> decide), fun h => ?_⟩
  refine ⟨[.ro, .ro], .bool true, [none, none], eq_IntS a.inp f6.1 f6.2, trivial, ?_⟩
  refine ⟨fun h => Bool.noConfusion h, fun h => ?_⟩
  refine ⟨[.ro, .ro], .bool true, [none, none], eq_IntS a.out f7.1 f7.2, trivial, ?_⟩
  refine ⟨fun h => Bool.noConfusion h, fun h => ?_⟩
  refine ⟨fun h => absurd rfl (of_decide_eq_true h), fun h => ?_⟩
  exact ⟨.refl _, trivial⟩
end Go.Proofs.VI
