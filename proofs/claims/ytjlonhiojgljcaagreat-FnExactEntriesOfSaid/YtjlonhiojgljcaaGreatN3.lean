/- Contracts of functions, and what they rest on: l18ent. -/
import Derived.Test.YtjlonhiojgljcaaGreatN2
import Derived.Test.YtjlonhiojgljcaaGreatN0
set_option linter.unusedVariables false
set_option linter.unusedSimpArgs false
set_option maxRecDepth 10000
set_option maxHeartbeats 4000000
namespace Go.Proofs.VI
open Go
def globN (o : GObj) : List ByteArray := o.globs.map fun g => g.name
noncomputable def modN (m : GLibMod) : List ByteArray := globN (gO (modO m.b)).1
noncomputable def libN (l : List GLibMod) : List ByteArray := (l.map modN).flatten
noncomputable def entriesV (l : List GLibMod) : List ByteArray := if libE l = true then setS (libN l) else []
theorem gO_globs (b : List UInt8) : (gO (modO b)).1.globs.length ≤ 20 := by
  cases h : modO b with
  | none => simp [gO]
  | some o =>
    obtain ⟨e, hg⟩ := modO_some h
    have := objE_le hg.2.2.2.2.2
    rw [← e] at this
    show o.globs.length ≤ 20
    omega
theorem modN_len (m : GLibMod) : (modN m).length ≤ 20 := by
  rw [modN, globN, List.length_map]; exact gO_globs m.b
theorem libN_take (l : List GLibMod) (i : Nat) (h : i < l.length) : libN (l.take (i + 1)) = libN (l.take i) ++ modN l[i] := by
  rw [libN, libN, List.take_add_one, List.getElem?_eq_getElem h, List.map_append, List.flatten_append]; simp
theorem libN_len (l : List GLibMod) : (libN l).length ≤ 20 * l.length := by
  induction l with
  | nil => simp [libN]
  | cons m l ih =>
    have := modN_len m
    simp only [libN, List.map_cons, List.flatten_cons, List.length_append, List.length_cons] at ih ⊢
    omega
theorem libE_len {l : List GLibMod} (h : libE l = true) : l.length ≤ 12 := by
  by_cases hp : libP l
  · have := hp.1; omega
  · rw [libE, dec_false hp] at h; cases h
theorem objRo (b : List UInt8) : Sim (.tup [.agg (GObj.ow (gO (modO b)).1), .bool (gO (modO b)).2]) (.tup [.agg (GObj.ro (gO (modO b)).1), .bool (gO (modO b)).2]) :=
  .trans (.frz _) (.of_eq (by show AV.tup [.agg (toRoL (GObj.ow _)), _] = _; rw [GObj.toRo_ow]; rfl))
theorem impl_EntriesOf (a : GLib) (fa : GLib.fit a) (oa : GLib.ok a) : Con 14 [.agg (GLib.ro a)] (.ow 1 (GString.ows (entriesV a.mods))) [none] := by
  have ua := GLib.fit_un fa
  have lm : (GLibMod.ros a.mods).length = a.mods.length := by simp
  have cL := impl_LibOk a fa oa
  refine con Tryz.func14 ?_
  cases hE : libE a.mods with
  | false =>
    rw [hE] at cL
    rw [entriesV, if_neg (by rw [hE]; decide)]
    exact ⟨[.ro], .ff, [none], .nbr rfl cL, trivial, .refl _, trivial⟩
  | true =>
    rw [hE] at cL
    have h12 := libE_len hE
    rw [entriesV, if_pos hE]
    refine ⟨[.ro], .tt, [none], .nbr rfl cL, trivial, ?_⟩
    refine ⟨{ i : Nat // i ≤ a.mods.length }, fun i => ⟨[(3, .own 0), (16, .ro 2 (GLibMod.ros a.mods)), (17, .int .i64 a.mods.length), (18, .int .i64 i.1)], [(0, .rows 1 (GString.ows (libN (a.mods.take i.1))) [])]⟩, fun i => a.mods.length - i.1, ⟨0, Nat.zero_le _⟩, ?_, ?_⟩
    · exact ⟨rfl, congrArg (AV.int .i64) (by rw [lm]), rfl, rfl, .refl _, trivial⟩
    · rintro ⟨i, hi⟩
      dsimp only
      refine ⟨fun h => ?_, fun h => ?_⟩ <;> simp only [decide_eq_true_eq, decide_eq_false_iff_not] at h
      · have hi : i < a.mods.length := by omega
        have um := GLibMod.fit_un (ua.2 _ (List.getElem_mem hi))
        refine ⟨Int.natCast_nonneg _, _, mod_row hi, ?_⟩
        refine ⟨[.ro], .tup [.agg (GObj.ro (gO (modO a.mods[i].b)).1), .bool (gO (modO a.mods[i].b)).2], [none], (impl_GetObj a.mods[i].b um.1).sim (by simp) (objRo _), trivial, ?_⟩
        have hg20 := gO_globs a.mods[i].b
        have hml := modN_len a.mods[i]
        have hl0 := libN_len (a.mods.take i)
        have hti : (a.mods.take i).length = i := by simp; omega
        have hnx := libN_take a.mods i hi
        have eN : modN a.mods[i] = globN (gO (modO a.mods[i].b)).1 := rfl
        rw [eN] at hnx
        generalize (gO (modO a.mods[i].b)).1 = o at *
        have lg : (GGlob.ros o.globs).length = o.globs.length := by simp
        refine ⟨{ k : Nat // k ≤ o.globs.length }, fun k => ⟨[(3, .own 0), (16, .ro 2 (GLibMod.ros a.mods)), (17, .int .i64 a.mods.length), (18, .int .i64 i), (29, .ro 5 (GGlob.ros o.globs)), (30, .int .i64 o.globs.length), (31, .int .i64 k.1)], [(0, .rows 1 (GString.ows (libN (a.mods.take i) ++ (globN o).take k.1)) [])]⟩, fun k => o.globs.length - k.1, ⟨0, Nat.zero_le _⟩, ?_, ?_⟩
        · refine ⟨rfl, rfl, rfl, rfl, congrArg (AV.int .i64) (by rw [lg]), rfl, rfl, SimRows.of_eq ?_, trivial⟩
          rw [List.take_zero, List.append_nil]
        · rintro ⟨k, hk⟩
          dsimp only
          refine ⟨fun h => ?_, fun h => ?_⟩ <;> simp only [decide_eq_true_eq, decide_eq_false_iff_not] at h
          · have hk : k < o.globs.length := by omega
            refine ⟨Int.natCast_nonneg _, _, glob_row hk, trivial, ?_, ⟨⟨trivial, trivial⟩, trivial⟩, ?_⟩
            · show ((GString.ows (libN (a.mods.take i) ++ (globN o).take k)).length + 1) * 16 ≤ _
              have : (libN (a.mods.take i)).length ≤ 240 := by omega
              simp [globN]; omega
            · refine ⟨⟨k + 1, hk⟩, Nat.sub_succ_lt_self _ _ hk, rfl, rfl, rfl, rfl, rfl, congrArg (AV.int .i64) (w64 (by omega) (by omega)), rfl, SimRows.of_eq ?_, trivial⟩
              have hkN : k < (globN o).length := by simp [globN]; exact hk
              have eg : (globN o)[k] = o.globs[k].name := by simp [globN]
              refine (strs_cat _ [o.globs[k].name]).trans ?_
              rw [List.take_add_one, List.getElem?_eq_getElem hkN, eg, List.append_assoc]; rfl
          · have hk : k = o.globs.length := by omega
            subst hk
            refine ⟨⟨i + 1, hi⟩, Nat.sub_succ_lt_self _ _ hi, rfl, rfl, congrArg (AV.int .i64) (w64 (by omega) (by omega)), rfl, SimRows.of_eq ?_, trivial⟩
            rw [hnx, List.take_of_length_le (l := globN o) (by simp [globN])]
      · have hi : i = a.mods.length := by omega
        subst hi
        have hl0 := libN_len a.mods
        rw [List.take_length]
        refine ⟨[.muts 1], .tup [], [some (.ow 1 (GString.ows (sortS (libN a.mods))))], con_Sort (libN a.mods) (by omega), trivial, [.mv], .ow 1 (GString.ows (cutS (sortS (libN a.mods)))), [none], con_Compact (sortS (libN a.mods)) (by rw [sortS_len]; omega), trivial, ?_⟩
        rw [cut_sort]
        exact ⟨.refl _, trivial⟩
theorem setS_snoc (l : List ByteArray) (s : ByteArray) : setS (l ++ [s]) = insS (setS l) s := by rw [setS, setS, List.foldl_append]; rfl
theorem setS_len (l : List ByteArray) : (setS l).length ≤ l.length := by
  have : ∀ l a : List ByteArray, (l.foldl insS a).length ≤ a.length + l.length := fun l => by
    induction l with
    | nil => intro a; simp
    | cons s l ih => intro a; have := ih (insS a s); have := insS_len a s; simp only [List.foldl_cons, List.length_cons]; omega
  have := this l []
  rw [setS]; simpa using this
theorem spec_EntriesOf (a : GLib) (fa : GLib.fit a) (oa : GLib.ok a) : Con 12 [.agg (GLib.ro a)] (.ro 1 (GString.ros (entriesV a.mods))) [none] := by
  have ua := GLib.fit_un fa
  have lm : (GLibMod.ros a.mods).length = a.mods.length := by simp
  have cL := spec_LibOk a fa oa
  refine con Tryz.func12 ?_
  refine ⟨{ i : Nat // i ≤ a.mods.length ∧ (libE a.mods = false → i = 0) }, fun i => ⟨[(1, .ptr 0 0 0), (3, .ro 1 (GString.ros (setS (libN (a.mods.take i.1))))), (4, .int .i64 i.1)], [(0, .box (GLib.ro a) [])]⟩, fun i => a.mods.length - i.1, ⟨0, Nat.zero_le _, fun _ => rfl⟩, ?_, ?_⟩
  · exact ⟨rfl, rfl, .refl _, rfl, .refl _, trivial⟩
  · rintro ⟨i, hi, hc⟩
    dsimp only
    refine ⟨fun h => ⟨[.ro], .bool (libE a.mods), [none], cL, trivial, fun h2 => ?_, fun h2 => ?_⟩, fun h => ?_⟩ <;> simp only [lm, decide_eq_true_eq, decide_eq_false_iff_not] at h
    · have hi : i < a.mods.length := by omega
      have um := GLibMod.fit_un (ua.2 _ (List.getElem_mem hi))
      have h12 := libE_len h2
      refine ⟨Int.natCast_nonneg _, _, mod_row hi, ?_⟩
      refine ⟨[.ro], .tup [.agg (GObj.ro (gO (modO a.mods[i].b)).1), .bool (gO (modO a.mods[i].b)).2], [none], (spec_GetObj a.mods[i].b um.1).sim (by simp) (objRo _), trivial, ?_⟩
      have hg20 := gO_globs a.mods[i].b
      have hml := modN_len a.mods[i]
      have hl0 := libN_len (a.mods.take i)
      have hti : (a.mods.take i).length = i := by simp; omega
      have hnx := libN_take a.mods i hi
      have eN : modN a.mods[i] = globN (gO (modO a.mods[i].b)).1 := rfl
      rw [eN] at hnx
      generalize (gO (modO a.mods[i].b)).1 = o at *
      have lg : (GGlob.ros o.globs).length = o.globs.length := by simp
      refine ⟨{ k : Nat // k ≤ o.globs.length }, fun k => ⟨[(1, .ptr 0 0 0), (3, .ro 1 (GString.ros (setS (libN (a.mods.take i) ++ (globN o).take k.1)))), (4, .int .i64 i), (5, .ptr 1 0 0), (7, .int .i64 k.1)], [(0, .box (GLib.ro a) []), (1, .box (GObj.ro o) [])]⟩, fun k => o.globs.length - k.1, ⟨0, Nat.zero_le _⟩, ?_, ?_⟩
      · exact ⟨rfl, rfl, congrArg (fun q => AV.ro 1 (GString.ros (setS q))) (List.append_nil _).symm, rfl, rfl, rfl, rfl, .refl _, .refl _, trivial⟩
      · rintro ⟨k, hk⟩
        dsimp only
        have hl1 := setS_len (libN (a.mods.take i) ++ (globN o).take k)
        have hl2 : (libN (a.mods.take i) ++ (globN o).take k).length ≤ 260 := by simp [globN]; omega
        refine ⟨fun h => ?_, fun h => ?_⟩ <;> simp only [lg, decide_eq_true_eq, decide_eq_false_iff_not] at h
        · have hk : k < o.globs.length := by omega
          have hkN : k < (globN o).length := by simp [globN]; exact hk
          have eg : (globN o)[k] = o.globs[k].name := by simp [globN]
          refine ⟨Int.natCast_nonneg _, _, glob_row hk, ?_⟩
          refine ⟨[.ro, .ro], .ro 1 (GString.ros (insS (setS (libN (a.mods.take i) ++ (globN o).take k)) o.globs[k].name)), [none, none], spec_l15Sorted (setS (libN (a.mods.take i) ++ (globN o).take k)) o.globs[k].name (by omega) (setS_sorted _), trivial, ?_⟩
          refine ⟨⟨k + 1, hk⟩, Nat.sub_succ_lt_self _ _ hk, ?_⟩
          dsimp only
          rw [List.take_add_one, List.getElem?_eq_getElem hkN, eg, ← List.append_assoc, Option.toList_some, setS_snoc]
          exact ⟨rfl, rfl, .refl _, rfl, rfl, rfl, congrArg (AV.int .i64) (w64 (by omega) (by omega)), .refl _, .refl _, trivial⟩
        · have hk : k = o.globs.length := by omega
          subst hk
          refine ⟨⟨i + 1, hi, fun h => by rw [h2] at h; cases h⟩, Nat.sub_succ_lt_self _ _ hi, ?_⟩
          dsimp only
          rw [hnx, List.take_of_length_le (l := globN o) (by simp [globN])]
          exact ⟨rfl, rfl, .refl _, congrArg (AV.int .i64) (w64 (by omega) (by omega)), .refl _, trivial⟩
    · have h0 := hc h2
      subst h0
      rw [entriesV, if_neg (by rw [h2]; decide)]
      exact ⟨.refl _, trivial⟩
    · rw [entriesV]
      have hi : i = a.mods.length := by omega
      subst hi
      rw [List.take_length]
      split
      · exact ⟨.refl _, trivial⟩
      · rename_i h2
        have h0 := hc (by simpa using h2)
        have : a.mods = [] := List.length_eq_zero_iff.1 h0
        rw [this]
        exact ⟨.refl _, trivial⟩
theorem entriesV_len (l : List GLibMod) : (entriesV l).length ≤ 240 := by
  rw [entriesV]
  split
  · rename_i h
    have h1 := libE_len h
    have h2 := setS_len (libN l)
    have h3 := libN_len l
    omega
  · simp
end Go.Proofs.VI
