/- Contracts of functions, and what they rest on: l20names. -/
import Derived.Test.YtjlonhiojgljcaaGreatN5
import Derived.Test.YtjlonhiojgljcaaGreatN0
import Derived.Test.YtjlonhiojgljcaaGreatA4
set_option linter.unusedVariables false
set_option linter.unusedSimpArgs false
set_option maxRecDepth 10000
set_option maxHeartbeats 4000000
namespace Go.Proofs.VI
open Go
theorem secL_app (a b : List GObj) : ∃ N, secL (a ++ b) = secL a ++ N := ⟨_, by rw [secL, List.zipIdx_append, List.flatMap_append]; rfl⟩
theorem secL_pre (l : List GObj) (i : Nat) (h : i < l.length) (k : Nat) : ∃ N, secL l = (secL (l.take i) ++ (secO i l[i]).take k) ++ N := by
  obtain ⟨N, e⟩ := secL_app (l.take (i + 1)) (l.drop (i + 1))
  rw [List.take_append_drop, secL_take l i h] at e
  refine ⟨(secO i l[i]).drop k ++ N, ?_⟩
  rw [e, List.append_assoc, List.append_assoc, ← List.append_assoc (List.take k _), List.take_append_drop]
theorem str_len (l : List GString) : (GString.ows l).length = l.length := by simp
theorem namesP_yes {P : List GSec} {t : GSec} (h : placeOf (namesP P) t.2.2.name < 0) : namesP (P ++ [t]) = namesP P ++ [t.2.2.name] := by rw [namesP_snoc]; exact if_pos h
theorem namesP_no {P : List GSec} {t : GSec} (h : ¬ placeOf (namesP P) t.2.2.name < 0) : namesP (P ++ [t]) = namesP P := by rw [namesP_snoc]; exact if_neg h
theorem impl_sectNames (l : List GObj) (hl : l.length ≤ 1099511627776) (hf : ∀ o ∈ l, GObj.fit o) (hB : (secL l).length ≤ 1048576) : Con 81 [.ro 2 (GObj.ros l)] (.ow 1 (GString.ows (namesOf l))) [none] := by
  have lm : (GObj.ros l).length = l.length := by simp
  refine con Tryz.func81 ?_
  refine ⟨{ i : Nat // i ≤ l.length }, fun i => ⟨[(3, .own 0), (9, .ro 2 (GObj.ros l)), (10, .int .i64 l.length), (11, .int .i64 i.1)], [(0, .rows 1 (GString.ows (namesP (secL (l.take i.1)))) [])]⟩, fun i => l.length - i.1, ⟨0, Nat.zero_le _⟩, ?_, ?_⟩
  · exact ⟨rfl, congrArg (AV.int .i64) (by rw [lm]), rfl, rfl, .refl _, trivial⟩
  · rintro ⟨i, hi⟩
    dsimp only
    refine ⟨fun h => ?_, fun h => ?_⟩ <;> simp only [decide_eq_true_eq, decide_eq_false_iff_not] at h
    · have hi : i < l.length := by omega
      have ho := obj_row (List.getElem?_eq_getElem hi)
      have fo := GObj.fit_un (hf _ (List.getElem_mem hi))
      have hnx := secL_take l i hi
      have hpre := secL_pre l i hi
      obtain ⟨o, hO⟩ : ∃ o, o = l[i] := ⟨_, rfl⟩
      rw [← hO] at ho fo hnx hpre
      have ls : (GSect.ros o.sects).length = o.sects.length := by simp
      refine ⟨Int.natCast_nonneg _, _, ho, ?_⟩
      refine ⟨{ k : Nat // k ≤ o.sects.length }, fun k => ⟨[(3, .own 0), (9, .ro 2 (GObj.ros l)), (10, .int .i64 l.length), (11, .int .i64 i), (16, .ro 3 (GSect.ros o.sects)), (17, .int .i64 o.sects.length), (18, .int .i64 k.1)], [(0, .rows 1 (GString.ows (namesP (secL (l.take i) ++ (secO i o).take k.1))) [])]⟩, fun k => o.sects.length - k.1, ⟨0, Nat.zero_le _⟩, ?_, ?_⟩
      · exact ⟨rfl, rfl, rfl, rfl, congrArg (AV.int .i64) (by rw [ls]), rfl, rfl, .of_eq (by rw [List.take_zero, List.append_nil]), trivial⟩
      · rintro ⟨k, hk⟩
        dsimp only
        refine ⟨fun h => ?_, fun h => ?_⟩ <;> simp only [decide_eq_true_eq, decide_eq_false_iff_not] at h
        · have hk : k < o.sects.length := by omega
          have hs := sect_row (List.getElem?_eq_getElem hk)
          have hst := secO_take i o k hk
          have hlen : (namesP (secL (l.take i) ++ (secO i o).take k)).length ≤ 1048576 := by
            obtain ⟨N, e⟩ := hpre k
            have := namesP_len (secL (l.take i) ++ (secO i o).take k)
            rw [e, List.length_append] at hB
            omega
          refine ⟨Int.natCast_nonneg _, _, hs, ?_⟩
          refine ⟨[.ro, .ro], .int .i64 (placeOf (namesP (secL (l.take i) ++ (secO i o).take k)) o.sects[k].name), [none, none], by rw [GString.roo]; exact impl_placeIn _ _ (by omega), ⟨trivial, trivial⟩, fun h => ?_, fun h => ?_⟩ <;> simp only [decide_eq_true_eq, decide_eq_false_iff_not] at h
          · refine ⟨trivial, (by show ((GString.ows _).length + 1) * 16 ≤ _; rw [str_len]; omega), ⟨⟨trivial, trivial⟩, trivial⟩, ?_⟩
            refine ⟨⟨k + 1, hk⟩, Nat.sub_succ_lt_self _ _ hk, rfl, rfl, rfl, rfl, rfl, congrArg (AV.int .i64) (w64 (by omega) (by omega)), rfl, .of_eq ?_, trivial⟩
            dsimp only
            rw [hst, ← List.append_assoc, namesP_yes (t := (i, k, o.sects[k])) h]
            exact strs_cat _ [_]
          · refine ⟨⟨k + 1, hk⟩, Nat.sub_succ_lt_self _ _ hk, rfl, rfl, rfl, rfl, rfl, congrArg (AV.int .i64) (w64 (by omega) (by omega)), rfl, .of_eq ?_, trivial⟩
            dsimp only
            rw [hst, ← List.append_assoc, namesP_no (t := (i, k, o.sects[k])) h]
        · have hk : k = o.sects.length := by omega
          subst hk
          refine ⟨⟨i + 1, hi⟩, Nat.sub_succ_lt_self _ _ hi, rfl, rfl, congrArg (AV.int .i64) (w64 (by omega) (by omega)), rfl, .of_eq ?_, trivial⟩
          dsimp only
          rw [hnx, List.take_of_length_le (l := secO i o) (by rw [secO_len]; exact Nat.le_refl _)]
    · have hi : i = l.length := by omega
      subst hi
      rw [List.take_length]
      exact ⟨.refl _, trivial⟩
theorem spec_l20Names (l : List GObj) (hl : l.length ≤ 1099511627776) (hf : ∀ o ∈ l, GObj.fit o) (hB : (secL l).length ≤ 1048576) : Con 77 [.ro 2 (GObj.ros l)] (.ow 1 (GString.ows (namesOf l))) [none] := by
  have lm : (GObj.ros l).length = l.length := by simp
  refine con Tryz.func77 ?_
  refine ⟨{ i : Nat // i ≤ l.length }, fun i => ⟨[(0, .ro 2 (GObj.ros l)), (3, .own 0), (4, .int .i64 i.1)], [(0, .rows 1 (GString.ows (namesP (secL (l.take i.1)))) [])]⟩, fun i => l.length - i.1, ⟨0, Nat.zero_le _⟩, ?_, ?_⟩
  · exact ⟨rfl, rfl, rfl, .refl _, trivial⟩
  · rintro ⟨i, hi⟩
    dsimp only
    refine ⟨fun h => ?_, fun h => ?_⟩ <;> simp only [lm, decide_eq_true_eq, decide_eq_false_iff_not] at h
    · have hi : i < l.length := by omega
      have ho := obj_row (List.getElem?_eq_getElem hi)
      have fo := GObj.fit_un (hf _ (List.getElem_mem hi))
      have hnx := secL_take l i hi
      have hpre := secL_pre l i hi
      obtain ⟨o, hO⟩ : ∃ o, o = l[i] := ⟨_, rfl⟩
      rw [← hO] at ho fo hnx hpre
      have ls : (GSect.ros o.sects).length = o.sects.length := by simp
      refine ⟨{ k : Nat // k ≤ o.sects.length }, fun k => ⟨[(0, .ro 2 (GObj.ros l)), (3, .own 0), (4, .int .i64 i), (5, .int .i64 k.1)], [(0, .rows 1 (GString.ows (namesP (secL (l.take i) ++ (secO i o).take k.1))) [])]⟩, fun k => o.sects.length - k.1, ⟨0, Nat.zero_le _⟩, ?_, ?_⟩
      · exact ⟨rfl, rfl, rfl, rfl, .of_eq (by rw [List.take_zero, List.append_nil]), trivial⟩
      · rintro ⟨k, hk⟩
        dsimp only
        refine ⟨Int.natCast_nonneg _, _, ho, fun h => ?_, fun h => ?_⟩ <;> simp only [ls, decide_eq_true_eq, decide_eq_false_iff_not] at h
        · have hk : k < o.sects.length := by omega
          have hs := sect_row (List.getElem?_eq_getElem hk)
          have hst := secO_take i o k hk
          have hlen : (namesP (secL (l.take i) ++ (secO i o).take k)).length ≤ 1048576 := by
            obtain ⟨N, e⟩ := hpre k
            have := namesP_len (secL (l.take i) ++ (secO i o).take k)
            rw [e, List.length_append] at hB
            omega
          refine ⟨Int.natCast_nonneg _, _, ho, Int.natCast_nonneg _, _, hs, ?_⟩
          refine ⟨[.ro, .ro], .int .i64 (placeOf (namesP (secL (l.take i) ++ (secO i o).take k)) o.sects[k].name), [none, none], by rw [GString.roo]; exact spec_l9At _ _ (by omega), ⟨trivial, trivial⟩, fun h => ?_, fun h => ?_⟩ <;> simp only [decide_eq_true_eq, decide_eq_false_iff_not] at h
          · refine ⟨Int.natCast_nonneg _, _, ho, Int.natCast_nonneg _, _, hs, trivial, (by show ((GString.ows _).length + 1) * 16 ≤ _; rw [str_len]; omega), ⟨⟨trivial, trivial⟩, trivial⟩, ?_⟩
            refine ⟨⟨k + 1, hk⟩, Nat.sub_succ_lt_self _ _ hk, rfl, rfl, congrArg (AV.int .i64) (w64 (by omega) (by omega)), rfl, .of_eq ?_, trivial⟩
            dsimp only
            rw [hst, ← List.append_assoc, namesP_yes (t := (i, k, o.sects[k])) h]
            exact strs_cat _ [_]
          · refine ⟨⟨k + 1, hk⟩, Nat.sub_succ_lt_self _ _ hk, rfl, rfl, congrArg (AV.int .i64) (w64 (by omega) (by omega)), rfl, .of_eq ?_, trivial⟩
            dsimp only
            rw [hst, ← List.append_assoc, namesP_no (t := (i, k, o.sects[k])) h]
        · have hk : k = o.sects.length := by omega
          subst hk
          refine ⟨⟨i + 1, hi⟩, Nat.sub_succ_lt_self _ _ hi, rfl, congrArg (AV.int .i64) (w64 (by omega) (by omega)), rfl, .of_eq ?_, trivial⟩
          dsimp only
          rw [hnx, List.take_of_length_le (l := secO i o) (by rw [secO_len]; exact Nat.le_refl _)]
    · have hi : i = l.length := by omega
      subst hi
      rw [List.take_length]
      exact ⟨.refl _, trivial⟩
end Go.Proofs.VI
