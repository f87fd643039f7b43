/- Contracts of functions, and what they rest on: l21globs. -/
import Derived.Test.YtjlonhiojgljcaaGreatO2
import Derived.Test.YtjlonhiojgljcaaGreatJ1
set_option linter.unusedVariables false
set_option linter.unusedSimpArgs false
set_option maxRecDepth 10000
set_option maxHeartbeats 4000000
namespace Go.Proofs.VI
open Go
/-- The globals as they come: of which module. -/
abbrev GGl := Nat × GGlob
def glbO (i : Nat) (o : GObj) : List GGl := o.globs.map fun g => (i, g)
def glbL (l : List GObj) : List GGl := l.zipIdx.flatMap fun x => glbO x.2 x.1
theorem glbO_len (i : Nat) (o : GObj) : (glbO i o).length = o.globs.length := by simp [glbO]
theorem glbO_take (i : Nat) (o : GObj) (k : Nat) (h : k < o.globs.length) : (glbO i o).take (k + 1) = (glbO i o).take k ++ [(i, o.globs[k])] := by
  rw [List.take_add_one, glbO, List.getElem?_map, List.getElem?_eq_getElem h]; rfl
theorem glbL_take (l : List GObj) (i : Nat) (h : i < l.length) : glbL (l.take (i + 1)) = glbL (l.take i) ++ glbO i l[i] := by
  rw [glbL, glbL, List.take_add_one, List.getElem?_eq_getElem h, List.zipIdx_append, List.flatMap_append]
  congr 1
  have : (l.take i).length = i := by simp; omega
  simp [this]
theorem glbL_pre (l : List GObj) (i : Nat) (h : i < l.length) (k : Nat) : ∃ N, glbL l = (glbL (l.take i) ++ (glbO i l[i]).take k) ++ N := by
  have hap : ∀ a b : List GObj, ∃ N, glbL (a ++ b) = glbL a ++ N := fun a b => ⟨_, by rw [glbL, List.zipIdx_append, List.flatMap_append]; rfl⟩
  obtain ⟨N, e⟩ := hap (l.take (i + 1)) (l.drop (i + 1))
  rw [List.take_append_drop, glbL_take l i h] at e
  refine ⟨(glbO i l[i]).drop k ++ N, ?_⟩
  rw [e, List.append_assoc, List.append_assoc, ← List.append_assoc (List.take k _), List.take_append_drop]
noncomputable def gstep (l : List GObj) (p : List GPlaced) (st : List GString × List Int × Int) (t : GGl) : List GString × List Int × Int :=
  if st.2.2 = 0 then (if 0 ≤ placeOf st.1 t.2.name then ([], [], 2) else match worthX (wW (basesOf l p t.1)) (wG [] []) t.2.e with | none => ([], [], 4) | some n => (st.1 ++ [t.2.name], st.2.1 ++ [n], 0)) else st
noncomputable def gfold (l : List GObj) (p : List GPlaced) (P : List GGl) : List GString × List Int × Int := P.foldl (gstep l p) ([], [], 0)
theorem gfold_snoc (l : List GObj) (p : List GPlaced) (P : List GGl) (t : GGl) : gfold l p (P ++ [t]) = gstep l p (gfold l p P) t := by rw [gfold, gfold, List.foldl_append]; rfl
theorem gfold_stop {l : List GObj} {p : List GPlaced} {P N : List GGl} (h : (gfold l p P).2.2 ≠ 0) : gfold l p (P ++ N) = gfold l p P := by
  have : ∀ (N : List GGl) (st : List GString × List Int × Int), st.2.2 ≠ 0 → N.foldl (gstep l p) st = st := fun N => by
    induction N with
    | nil => intro st _; rfl
    | cons t N ih => intro st hs; rw [List.foldl_cons, show gstep l p st t = st from if_neg hs]; exact ih st hs
  rw [gfold, List.foldl_append]
  exact this N _ h
theorem gstep_two {l : List GObj} {p : List GPlaced} {st : List GString × List Int × Int} {t : GGl} (h0 : st.2.2 = 0) (h : 0 ≤ placeOf st.1 t.2.name) : gstep l p st t = ([], [], 2) := by rw [gstep, if_pos h0, if_pos h]
theorem gstep_four {l : List GObj} {p : List GPlaced} {st : List GString × List Int × Int} {t : GGl} (h0 : st.2.2 = 0) (h : ¬ 0 ≤ placeOf st.1 t.2.name) (hw : worthX (wW (basesOf l p t.1)) (wG [] []) t.2.e = none) : gstep l p st t = ([], [], 4) := by rw [gstep, if_pos h0, if_neg h, hw]
theorem gstep_fine {l : List GObj} {p : List GPlaced} {st : List GString × List Int × Int} {t : GGl} {n : Int} (h0 : st.2.2 = 0) (h : ¬ 0 ≤ placeOf st.1 t.2.name) (hw : worthX (wW (basesOf l p t.1)) (wG [] []) t.2.e = some n) : gstep l p st t = (st.1 ++ [t.2.name], st.2.1 ++ [n], 0) := by rw [gstep, if_pos h0, if_neg h, hw]
theorem gfold_len (l : List GObj) (p : List GPlaced) (P : List GGl) : (gfold l p P).1.length ≤ P.length ∧ (gfold l p P).2.1.length ≤ P.length := by
  refine snoc_ind (P := fun P => (gfold l p P).1.length ≤ P.length ∧ (gfold l p P).2.1.length ≤ P.length) ⟨Nat.le_refl _, Nat.le_refl _⟩ (fun P t ih => ?_) P
  rw [gfold_snoc, List.length_append, List.length_singleton]
  unfold gstep
  split
  · split
    · exact ⟨Nat.zero_le _, Nat.zero_le _⟩
    · split
      · exact ⟨Nat.zero_le _, Nat.zero_le _⟩
      · simp only [List.length_append, List.length_singleton]; omega
  · omega
theorem int_ro (l : List Int) : Sim (.ow 1 (GInt.ows l)) (.ro 1 (GInt.ros l)) := .trans (.frz _) (.of_eq (by show AV.ro 1 (toRoRows _) = _; rw [GInt.roo]))
theorem glob_row' {l : List GGlob} {i : Nat} (h : i < l.length) : (GGlob.ros l)[i]? = some (GGlob.ro l[i]) := map_get _ _ h
theorem spec_l21Globs (l : List GObj) (p : List GPlaced) (hl : l.length ≤ 1099511627776) (hp : p.length ≤ 1099511627776) (hf : ∀ o ∈ l, GObj.fit o) (hk : ∀ o ∈ l, GObj.ok o) (hB : (glbL l).length ≤ 1048576) : Con 88 [.ro 2 (GObj.ros l), .ro 3 (GPlaced.ros p)] (.tup [.ow 1 (GString.ows (gfold l p (glbL l)).1), .ow 1 (GInt.ows (gfold l p (glbL l)).2.1), .int .i64 (gfold l p (glbL l)).2.2]) [none, none] := by
  have lm : (GObj.ros l).length = l.length := by simp
  refine con Tryz.func88 ?_
  refine ⟨{ i : Nat // i ≤ l.length ∧ (gfold l p (glbL (l.take i))).2.2 = 0 }, fun i => ⟨[(0, .ro 2 (GObj.ros l)), (1, .ro 3 (GPlaced.ros p)), (7, .own 0), (8, .own 1), (9, .int .i64 i.1)], [(0, .rows 1 (GString.ows (gfold l p (glbL (l.take i.1))).1) []), (1, .rows 1 (GInt.ows (gfold l p (glbL (l.take i.1))).2.1) [])]⟩, fun i => l.length - i.1, ⟨0, Nat.zero_le _, rfl⟩, ?_, ?_⟩
  · exact ⟨rfl, rfl, rfl, rfl, .refl _, rfl, .refl _, trivial⟩
  · rintro ⟨i, hi, hc⟩
    dsimp only
    refine ⟨fun h => ?_, fun h => ?_⟩ <;> simp only [lm, decide_eq_true_eq, decide_eq_false_iff_not] at h
    · have hi : i < l.length := by omega
      have ho := obj_row (List.getElem?_eq_getElem hi)
      have fo := GObj.fit_un (hf _ (List.getElem_mem hi))
      have ko := GObj.ok_un (hk _ (List.getElem_mem hi))
      have hnx := glbL_take l i hi
      have hpre := glbL_pre l i hi
      obtain ⟨o, hO⟩ : ∃ o, o = l[i] := ⟨_, rfl⟩
      simp only [← hO] at ho fo ko hnx hpre
      have lg : (GGlob.ros o.globs).length = o.globs.length := by simp
      refine ⟨[.ro, .ro, .ro], .ro 1 (GInt.ros (basesOf l p i)), [none, none, none], (spec_BasesOf l p i hl hp hf).sim (by simp) (int_ro _), trivial, ?_⟩
      refine ⟨{ k : Nat // k ≤ o.globs.length ∧ (gfold l p (glbL (l.take i) ++ (glbO i o).take k)).2.2 = 0 }, fun k => ⟨[(0, .ro 2 (GObj.ros l)), (1, .ro 3 (GPlaced.ros p)), (7, .own 0), (8, .own 1), (9, .int .i64 i), (10, .ro 1 (GInt.ros (basesOf l p i))), (11, .int .i64 k.1)], [(0, .rows 1 (GString.ows (gfold l p (glbL (l.take i) ++ (glbO i o).take k.1)).1) []), (1, .rows 1 (GInt.ows (gfold l p (glbL (l.take i) ++ (glbO i o).take k.1)).2.1) [])]⟩, fun k => o.globs.length - k.1, ⟨0, Nat.zero_le _, by rw [List.take_zero, List.append_nil]; exact hc⟩, ?_, ?_⟩
      · have e0 : glbL (l.take i) ++ (glbO i o).take 0 = glbL (l.take i) := by rw [List.take_zero, List.append_nil]
        dsimp only
        rw [e0]
        exact ⟨rfl, rfl, rfl, rfl, rfl, rfl, .refl _, rfl, .refl _, trivial⟩
      · rintro ⟨k, hk2, hc2⟩
        dsimp only at hc2 ⊢
        refine ⟨Int.natCast_nonneg _, _, ho, fun h => ?_, fun h => ?_⟩ <;> simp only [lg, decide_eq_true_eq, decide_eq_false_iff_not] at h
        · have hk3 : k < o.globs.length := by omega
          have hg := glob_row' hk3
          have hst := glbO_take i o k hk3
          obtain ⟨N', hN'⟩ := hpre (k + 1)
          obtain ⟨b1, b2⟩ := gfold_len l p (glbL (l.take i) ++ (glbO i o).take k)
          have b3 : (glbL (l.take i) ++ (glbO i o).take k).length ≤ 1048576 := by
            obtain ⟨N, e⟩ := hpre k
            rw [e, List.length_append] at hB
            omega
          rw [hst, ← List.append_assoc] at hN'
          have hP1 : glbL (l.take i) ++ (glbO i o).take (k + 1) = (glbL (l.take i) ++ (glbO i o).take k) ++ [(i, o.globs[k])] := by rw [hst, ← List.append_assoc]
          have hsn := gfold_snoc l p (glbL (l.take i) ++ (glbO i o).take k) (i, o.globs[k])
          have hend : ∀ c : Int, c ≠ 0 → gstep l p (gfold l p (glbL (l.take i) ++ (glbO i o).take k)) (i, o.globs[k]) = ([], [], c) → AV.tup [.ow 1 [], .ow 1 [], .int .i64 c] = AV.tup [.ow 1 (GString.ows (gfold l p (glbL l)).1), .ow 1 (GInt.ows (gfold l p (glbL l)).2.1), .int .i64 (gfold l p (glbL l)).2.2] := fun c hc e => by
            rw [hN', gfold_stop (by rw [hsn, e]; exact hc), hsn, e]; rfl
          have ug := GGlob.fit_un (fo.2.2 _ (List.getElem_mem hk3))
          have vg := GGlob.ok_un (ko.2.2 _ (List.getElem_mem hk3))
          have cW := spec_WorthX (basesOf l p i) [] [] (by decide) (by decide) o.globs[k].e ug vg.2
          rw [← hP1] at hsn
          refine ⟨Int.natCast_nonneg _, _, ho, Int.natCast_nonneg _, _, hg, ?_⟩
          refine ⟨[.ro, .ro], .int .i64 (placeOf (gfold l p (glbL (l.take i) ++ (glbO i o).take k)).1 o.globs[k].name), [none, none], by rw [GString.roo]; exact spec_l9At _ _ (by omega), ⟨trivial, trivial⟩, fun h2 => ?_, fun h2 => ?_⟩ <;> simp only [decide_eq_true_eq, decide_eq_false_iff_not] at h2
          · exact ⟨.of_eq (hend 2 (by decide) (gstep_two hc2 h2)), trivial⟩
          · rcases hw : worthX (wW (basesOf l p i)) (wG [] []) o.globs[k].e with _ | n <;> rw [hw] at cW
            · refine ⟨[.ro, .ro, .ro, .ro], .tup [.int .i64 0, .ff], [none, none, none, none], cW, ⟨⟨trivial, trivial, trivial⟩, trivial⟩, ?_⟩
              exact ⟨.of_eq (hend 4 (by decide) (gstep_four hc2 h2 hw)), trivial⟩
            · refine ⟨[.ro, .ro, .ro, .ro], .tup [.int .i64 n, .tt], [none, none, none, none], cW, ⟨⟨trivial, trivial, trivial⟩, trivial⟩, ?_⟩
              have e := gstep_fine (t := (i, o.globs[k])) hc2 h2 hw
              rw [e] at hsn
              refine ⟨trivial, (by show ((GString.ows _).length + 1) * 16 ≤ _; rw [str_len]; omega), ⟨⟨trivial, trivial⟩, trivial⟩, ?_⟩
              refine ⟨trivial, (by show ((GInt.ows _).length + 1) * 8 ≤ _; rw [int_len]; omega), ⟨⟨trivial, trivial⟩, trivial⟩, ?_⟩
              refine ⟨⟨k + 1, hk3, by rw [hsn]⟩, Nat.sub_succ_lt_self _ _ hk3, ?_⟩
              dsimp only
              rw [hsn]
              exact ⟨rfl, rfl, rfl, rfl, congrArg (AV.int .i64) (w64 (by omega) (by omega)), rfl, .of_eq (strs_cat _ [_]), rfl, .of_eq (int_app _ [n]), trivial⟩
        · have hk3 : k = o.globs.length := by omega
          subst hk3
          have e : glbL (l.take i) ++ (glbO i o).take o.globs.length = glbL (l.take (i + 1)) := by rw [hnx, List.take_of_length_le (l := glbO i o) (by rw [glbO_len]; exact Nat.le_refl _)]
          rw [e] at hc2 ⊢
          exact ⟨⟨i + 1, hi, hc2⟩, Nat.sub_succ_lt_self _ _ hi, rfl, rfl, congrArg (AV.int .i64) (w64 (by omega) (by omega)), rfl, .refl _, rfl, .refl _, trivial⟩
    · have hi : i = l.length := by omega
      subst hi
      rw [List.take_length] at hc ⊢
      exact ⟨.of_eq (by rw [hc]), trivial⟩
end Go.Proofs.VI
