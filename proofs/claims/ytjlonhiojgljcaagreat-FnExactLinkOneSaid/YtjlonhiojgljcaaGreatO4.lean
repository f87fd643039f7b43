/- Contracts of functions, and what they rest on: l21glob2. -/
import Derived.Test.YtjlonhiojgljcaaGreatO3
set_option linter.unusedVariables false
set_option linter.unusedSimpArgs false
set_option maxRecDepth 10000
set_option maxHeartbeats 4000000
namespace Go.Proofs.VI
open Go
noncomputable def gAll (l : List GObj) (a : Int) : List GString × List Int × Int := if placeC l a = 0 then gfold l (placeL l a) (glbL l) else ([], [], placeC l a)
theorem gAll_bad {l : List GObj} {a : Int} (h : placeC l a ≠ 0) : gAll l a = ([], [], placeC l a) := if_neg h
theorem gAll_fine {l : List GObj} {a : Int} (h : placeC l a = 0) : gAll l a = gfold l (placeL l a) (glbL l) := if_pos h
theorem gAll_len (l : List GObj) (a : Int) : (gAll l a).1.length ≤ (glbL l).length ∧ (gAll l a).2.1.length ≤ (glbL l).length := by
  rw [gAll]
  split
  · exact gfold_len _ _ _
  · exact ⟨Nat.zero_le _, Nat.zero_le _⟩
noncomputable def globsR (l : List GObj) (a : Int) : AV := if (gAll l a).2.2 = 0 then .tup [.ow 1 (GString.ows (gAll l a).1), .ow 1 (GInt.ows (gAll l a).2.1), .ro 3 (GPlaced.ros (placeL l a)), .int .i64 (placeE l a), .int .i64 0] else .tup [.ow 1 [], .ow 1 [], .ow 3 [], .int .i64 0, .int .i64 (gAll l a).2.2]
theorem impl_globsOf (l : List GObj) (a : Int) (hl : l.length ≤ 1099511627776) (hf : ∀ o ∈ l, GObj.fit o) (hk : ∀ o ∈ l, GObj.ok o) (hB : (secL l).length ≤ 1048576) (hW : cntS wordsS (secL l) ≤ 1048576) (hG : (glbL l).length ≤ 1048576) : Con 89 [.ro 2 (GObj.ros l), .int .i64 a] (globsR l a) [none, none] := by
  have lm : (GObj.ros l).length = l.length := by simp
  have hp := placeL_len l a hB
  refine con Tryz.func89 ?_
  refine ⟨[.ro, .ro], .tup [.ro 3 (GPlaced.ros (placeL l a)), .int .i64 (placeE l a), .int .i64 (placeC l a)], [none, none], (impl_PlaceAll l a hl hf hk hB hW).sim (by simp) (tupPs ⟨rfl, rfl, rfl⟩), trivial, fun h => ?_, fun h => ?_⟩ <;> simp only [decide_eq_true_eq, decide_eq_false_iff_not] at h
  · refine ⟨.of_eq ?_, trivial⟩
    rw [globsR, gAll_bad h, if_neg h]
  · have hC : placeC l a = 0 := Classical.not_not.1 h
    have hA := gAll_fine hC
    generalize hpp : placeL l a = p at *
    have hR : globsR l a = if (gfold l p (glbL l)).2.2 = 0 then .tup [.ow 1 (GString.ows (gfold l p (glbL l)).1), .ow 1 (GInt.ows (gfold l p (glbL l)).2.1), .ro 3 (GPlaced.ros p), .int .i64 (placeE l a), .int .i64 0] else .tup [.ow 1 [], .ow 1 [], .ow 3 [], .int .i64 0, .int .i64 (gfold l p (glbL l)).2.2] := by rw [globsR, hA, hpp]
    refine ⟨{ i : Nat // i ≤ l.length ∧ (gfold l p (glbL (l.take i))).2.2 = 0 }, fun i => ⟨[(0, .ro 2 (GObj.ros l)), (9, .ro 3 (GPlaced.ros p)), (10, .int .i64 (placeE l a)), (12, .own 0), (13, .own 1), (33, .ro 2 (GObj.ros l)), (34, .int .i64 l.length), (35, .int .i64 i.1)], [(0, .rows 1 (GString.ows (gfold l p (glbL (l.take i.1))).1) []), (1, .rows 1 (GInt.ows (gfold l p (glbL (l.take i.1))).2.1) [])]⟩, fun i => l.length - i.1, ⟨0, Nat.zero_le _, rfl⟩, ?_, ?_⟩
    · exact ⟨rfl, rfl, rfl, rfl, congrArg (AV.int .i64) (by rw [lm]), rfl, rfl, .refl _, rfl, .refl _, trivial⟩
    · rintro ⟨i, hi, hc⟩
      dsimp only
      refine ⟨fun h => ?_, fun h => ?_⟩ <;> simp only [decide_eq_true_eq, decide_eq_false_iff_not] at h
      · have hi : i < l.length := by omega
        have ho := obj_row (List.getElem?_eq_getElem hi)
        have fo := GObj.fit_un (hf _ (List.getElem_mem hi))
        have ko := GObj.ok_un (hk _ (List.getElem_mem hi))
        have hnx := glbL_take l i hi
        have hpre := glbL_pre l i hi
        obtain ⟨o, hO⟩ : ∃ o, o = l[i] := ⟨_, rfl⟩
        simp only [← hO] at ho fo ko hnx hpre
        have lg : (GGlob.ros o.globs).length = o.globs.length := by simp
        refine ⟨Int.natCast_nonneg _, _, ho, ?_⟩
        refine ⟨[.ro, .ro, .ro], .ro 1 (GInt.ros (basesOf l p i)), [none, none, none], (impl_BasesOf l p i hl hp hf).sim (by simp) (int_ro _), trivial, ?_⟩
        refine ⟨{ k : Nat // k ≤ o.globs.length ∧ (gfold l p (glbL (l.take i) ++ (glbO i o).take k)).2.2 = 0 }, fun k => ⟨[(0, .ro 2 (GObj.ros l)), (9, .ro 3 (GPlaced.ros p)), (10, .int .i64 (placeE l a)), (12, .own 0), (13, .own 1), (16, .ro 1 (GInt.ros (basesOf l p i))), (33, .ro 2 (GObj.ros l)), (34, .int .i64 l.length), (35, .int .i64 i), (45, .ro 5 (GGlob.ros o.globs)), (46, .int .i64 o.globs.length), (47, .int .i64 k.1)], [(0, .rows 1 (GString.ows (gfold l p (glbL (l.take i) ++ (glbO i o).take k.1)).1) []), (1, .rows 1 (GInt.ows (gfold l p (glbL (l.take i) ++ (glbO i o).take k.1)).2.1) [])]⟩, fun k => o.globs.length - k.1, ⟨0, Nat.zero_le _, by rw [List.take_zero, List.append_nil]; exact hc⟩, ?_, ?_⟩
        · have e0 : glbL (l.take i) ++ (glbO i o).take 0 = glbL (l.take i) := by rw [List.take_zero, List.append_nil]
          dsimp only
          rw [e0]
          exact ⟨rfl, rfl, rfl, rfl, rfl, rfl, rfl, rfl, congrArg (AV.int .i64) (by rw [lg]), rfl, rfl, .refl _, rfl, .refl _, trivial⟩
        · rintro ⟨k, hk2, hc2⟩
          dsimp only at hc2 ⊢
          refine ⟨fun h => ?_, fun h => ?_⟩ <;> simp only [decide_eq_true_eq, decide_eq_false_iff_not] at h
          · have hk3 : k < o.globs.length := by omega
            have hg := glob_row' hk3
            have hst := glbO_take i o k hk3
            obtain ⟨N', hN'⟩ := hpre (k + 1)
            obtain ⟨b1, b2⟩ := gfold_len l p (glbL (l.take i) ++ (glbO i o).take k)
            have b3 : (glbL (l.take i) ++ (glbO i o).take k).length ≤ 1048576 := by
              obtain ⟨N, e⟩ := hpre k
              rw [e, List.length_append] at hG
              omega
            rw [hst, ← List.append_assoc] at hN'
            have hP1 : glbL (l.take i) ++ (glbO i o).take (k + 1) = (glbL (l.take i) ++ (glbO i o).take k) ++ [(i, o.globs[k])] := by rw [hst, ← List.append_assoc]
            have hsn := gfold_snoc l p (glbL (l.take i) ++ (glbO i o).take k) (i, o.globs[k])
            have hend : ∀ c : Int, c ≠ 0 → gstep l p (gfold l p (glbL (l.take i) ++ (glbO i o).take k)) (i, o.globs[k]) = ([], [], c) → AV.tup [.ow 1 [], .ow 1 [], .ow 3 [], .int .i64 0, .int .i64 c] = globsR l a := fun c hc e => by
              rw [hR, hN', gfold_stop (by rw [hsn, e]; exact hc), hsn, e, if_neg hc]
            have ug := GGlob.fit_un (fo.2.2 _ (List.getElem_mem hk3))
            have vg := GGlob.ok_un (ko.2.2 _ (List.getElem_mem hk3))
            have cW := impl_WorthX (basesOf l p i) [] [] (by decide) (by decide) o.globs[k].e ug vg.2
            rw [← hP1] at hsn
            refine ⟨Int.natCast_nonneg _, _, hg, ?_⟩
            rcases hw : worthX (wW (basesOf l p i)) (wG [] []) o.globs[k].e with _ | n <;> rw [hw] at cW
            · refine ⟨[.ro, .ro, .ro, .ro], .tup [.int .i64 0, .ff], [none, none, none, none], .le (.cons (.refl _) (.cons (.refl _) (.cons (.nilr 1) (.cons (.nilr 1) (.refl _))))) cW, trivial, ?_⟩
              refine ⟨[.ro, .ro], .int .i64 (placeOf (gfold l p (glbL (l.take i) ++ (glbO i o).take k)).1 o.globs[k].name), [none, none], by rw [GString.roo]; exact impl_placeIn _ _ (by omega), ⟨trivial, trivial⟩, fun h2 => ?_, fun h2 => ?_⟩ <;> simp only [decide_eq_true_eq, decide_eq_false_iff_not] at h2
              · exact ⟨.of_eq (hend 2 (by decide) (gstep_two hc2 h2)), trivial⟩
              · exact ⟨.of_eq (hend 4 (by decide) (gstep_four hc2 h2 hw)), trivial⟩
            · refine ⟨[.ro, .ro, .ro, .ro], .tup [.int .i64 n, .tt], [none, none, none, none], .le (.cons (.refl _) (.cons (.refl _) (.cons (.nilr 1) (.cons (.nilr 1) (.refl _))))) cW, trivial, ?_⟩
              refine ⟨[.ro, .ro], .int .i64 (placeOf (gfold l p (glbL (l.take i) ++ (glbO i o).take k)).1 o.globs[k].name), [none, none], by rw [GString.roo]; exact impl_placeIn _ _ (by omega), ⟨trivial, trivial⟩, fun h2 => ?_, fun h2 => ?_⟩ <;> simp only [decide_eq_true_eq, decide_eq_false_iff_not] at h2
              · exact ⟨.of_eq (hend 2 (by decide) (gstep_two hc2 h2)), trivial⟩
              · have e := gstep_fine (t := (i, o.globs[k])) hc2 h2 hw
                rw [e] at hsn
                refine ⟨trivial, (by show ((GString.ows _).length + 1) * 16 ≤ _; rw [str_len]; omega), ⟨⟨trivial, trivial⟩, trivial⟩, ?_⟩
                refine ⟨trivial, (by show ((GInt.ows _).length + 1) * 8 ≤ _; rw [int_len]; omega), ⟨⟨trivial, trivial⟩, trivial⟩, ?_⟩
                refine ⟨⟨k + 1, hk3, by rw [hsn]⟩, Nat.sub_succ_lt_self _ _ hk3, ?_⟩
                dsimp only
                rw [hsn]
                exact ⟨rfl, rfl, rfl, rfl, rfl, rfl, rfl, rfl, rfl, congrArg (AV.int .i64) (w64 (by omega) (by omega)), rfl, .of_eq (strs_cat _ [_]), rfl, .of_eq (int_app _ [n]), trivial⟩
          · have hk3 : k = o.globs.length := by omega
            subst hk3
            have e : glbL (l.take i) ++ (glbO i o).take o.globs.length = glbL (l.take (i + 1)) := by rw [hnx, List.take_of_length_le (l := glbO i o) (by rw [glbO_len]; exact Nat.le_refl _)]
            rw [e] at hc2 ⊢
            exact ⟨⟨i + 1, hi, hc2⟩, Nat.sub_succ_lt_self _ _ hi, rfl, rfl, rfl, rfl, rfl, congrArg (AV.int .i64) (w64 (by omega) (by omega)), rfl, .refl _, rfl, .refl _, trivial⟩
      · have hi : i = l.length := by omega
        subst hi
        rw [List.take_length] at hc ⊢
        exact ⟨.of_eq (by rw [hR, if_pos hc]), trivial⟩
end Go.Proofs.VI
