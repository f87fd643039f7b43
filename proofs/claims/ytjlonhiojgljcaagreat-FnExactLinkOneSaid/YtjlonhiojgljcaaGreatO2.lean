/- Contracts of functions, and what they rest on: l20all. -/
import Derived.Test.YtjlonhiojgljcaaGreatN6
import Derived.Test.YtjlonhiojgljcaaGreatN9
import Derived.Test.YtjlonhiojgljcaaGreatO1
set_option linter.unusedVariables false
set_option linter.unusedSimpArgs false
set_option maxRecDepth 10000
set_option maxHeartbeats 4000000
namespace Go.Proofs.VI
open Go
/-- What all comes to. -/
def okNs (l : List GObj) (ns : List GString) : Prop := ∀ n ∈ ns, okP (ofN n (secL l))
noncomputable def codeA (l : List GObj) (ns : List GString) : Int := if dec (okNs l ns) = true then 0 else 2
theorem okNs_snoc {l : List GObj} {ns : List GString} {n : GString} : okNs l (ns ++ [n]) ↔ okNs l ns ∧ okP (ofN n (secL l)) := by
  constructor
  · exact fun h => ⟨fun m hm => h m (List.mem_append_left _ hm), h n (List.mem_append_right _ List.mem_cons_self)⟩
  · rintro ⟨h1, h2⟩ m hm
    rcases List.mem_append.1 hm with hm | hm
    · exact h1 m hm
    · rw [List.mem_singleton.1 hm]; exact h2
theorem codeA_yes {l : List GObj} {ns : List GString} (h : okNs l ns) : codeA l ns = 0 := by rw [codeA, dec_true h]; rfl
theorem codeA_no {l : List GObj} {ns : List GString} (h : ¬ okNs l ns) : codeA l ns = 2 := by rw [codeA, dec_false h]; rfl
def adrE (a : Int) : Bool := inI a 0 510 && decide (a % 2 = 0)
def objsP (l : List GObj) : Prop := ∀ o ∈ l, objE o = true
noncomputable def placeC (l : List GObj) (a : Int) : Int := if dec (objsP l) = false then 1 else if adrE a = false then 1 else if dec (okNs l (namesOf l)) = false then 2 else if 512 < (plcA l a (namesOf l)).2 then 6 else 0
noncomputable def placeL (l : List GObj) (a : Int) : List GPlaced := if placeC l a = 0 then ordK keyP (plcA l a (namesOf l)).1 else []
noncomputable def placeE (l : List GObj) (a : Int) : Int := if placeC l a = 0 then (plcA l a (namesOf l)).2 else 0
theorem place_obj {l : List GObj} {a : Int} (h : ¬ objsP l) : placeC l a = 1 ∧ placeL l a = [] ∧ placeE l a = 0 := by
  have e : placeC l a = 1 := by rw [placeC, dec_false h]; rfl
  exact ⟨e, by rw [placeL, e]; rfl, by rw [placeE, e]; rfl⟩
theorem place_adr {l : List GObj} {a : Int} (h : objsP l) (h2 : adrE a = false) : placeC l a = 1 ∧ placeL l a = [] ∧ placeE l a = 0 := by
  have e : placeC l a = 1 := by rw [placeC, dec_true h, h2]; rfl
  exact ⟨e, by rw [placeL, e]; rfl, by rw [placeE, e]; rfl⟩
theorem place_two {l : List GObj} {a : Int} (h : objsP l) (h2 : adrE a = true) (h3 : ¬ okNs l (namesOf l)) : placeC l a = 2 ∧ placeL l a = [] ∧ placeE l a = 0 := by
  have e : placeC l a = 2 := by rw [placeC, dec_true h, h2, dec_false h3]; rfl
  exact ⟨e, by rw [placeL, e]; rfl, by rw [placeE, e]; rfl⟩
theorem place_big {l : List GObj} {a : Int} (h : objsP l) (h2 : adrE a = true) (h3 : okNs l (namesOf l)) (h4 : 512 < (plcA l a (namesOf l)).2) : placeC l a = 6 ∧ placeL l a = [] ∧ placeE l a = 0 := by
  have e : placeC l a = 6 := by rw [placeC, dec_true h, h2, dec_true h3]; simp [h4]
  exact ⟨e, by rw [placeL, e]; rfl, by rw [placeE, e]; rfl⟩
theorem place_fine {l : List GObj} {a : Int} (h : objsP l) (h2 : adrE a = true) (h3 : okNs l (namesOf l)) (h4 : ¬ 512 < (plcA l a (namesOf l)).2) : placeC l a = 0 ∧ placeL l a = ordK keyP (plcA l a (namesOf l)).1 ∧ placeE l a = (plcA l a (namesOf l)).2 := by
  have e : placeC l a = 0 := by rw [placeC, dec_true h, h2, dec_true h3]; simp [h4]
  exact ⟨e, by rw [placeL, e]; rfl, by rw [placeE, e]; rfl⟩
theorem tupP {l l' : List GPlaced} {e e' c c' : Int} (h : c = c' ∧ l = l' ∧ e = e') : AV.tup [.ow 3 (GPlaced.ows l'), .int .i64 e', .int .i64 c'] = AV.tup [.ow 3 (GPlaced.ows l), .int .i64 e, .int .i64 c] := by
  obtain ⟨rfl, rfl, rfl⟩ := h; rfl
theorem tupPr {l l' : List GPlaced} {e e' c c' : Int} (h : c = c' ∧ l = l' ∧ e = e') : AV.tup [.ro 3 (GPlaced.ros l'), .int .i64 e', .int .i64 c'] = AV.tup [.ro 3 (GPlaced.ros l), .int .i64 e, .int .i64 c] := by
  obtain ⟨rfl, rfl, rfl⟩ := h; rfl
theorem plcA_bounds (l : List GObj) (a : Int) (ns : List GString) (hB : (secL l).length ≤ 1048576) (hW : cntS wordsS (secL l) ≤ 1048576) (hn : ns.length ≤ 1048576) (h0 : 0 ≤ a) (h1 : a ≤ 510) : (plcA l a ns).1.length ≤ 1099511627776 ∧ 0 ≤ (plcA l a ns).2 ∧ (plcA l a ns).2 ≤ 2199023256062 := by
  obtain ⟨f1, f2, f3, f4, f5⟩ := plcA_facts l a ns
  have m1 : ns.length * (secL l).length ≤ 1048576 * 1048576 := Nat.mul_le_mul hn hB
  have m2 : ns.length * cntS wordsS (secL l) ≤ 1048576 * 1048576 := Nat.mul_le_mul hn hW
  exact ⟨by omega, by omega, by omega⟩
theorem str_ro (l : List GString) : Sim (.ow 1 (GString.ows l)) (.ro 1 (GString.ros l)) := .trans (.frz _) (.of_eq (by show AV.ro 1 (toRoRows _) = _; rw [GString.roo]))
theorem obj8 {l : List GObj} (h : objsP l) : ∀ o ∈ l, o.sects.length ≤ 8 := fun o ho => by
  by_cases hp : objP o
  · have := hp.1.1; omega
  · have := h o ho; rw [objE, dec_false hp] at this; cases this
theorem impl_isAddrE (a : Int) : Con 80 [.int .i64 a] (.bool (adrE a)) [none] := by
  refine con Tryz.func80 ?_
  refine ⟨[.ro, .ro, .ro], .bool (inI a 0 510), [none, none, none], impl_within a 0 510, trivial, fun h => ⟨by decide, .of_eq (congrArg AV.bool ?_), trivial⟩, fun h => ⟨.of_eq (congrArg AV.bool ?_), trivial⟩⟩
  · rw [adrE, h, Int.tmod_eq_emod_of_nonneg (inI_true.1 h).1]; rfl
  · rw [adrE, h]; rfl
theorem impl_PlaceAll (l : List GObj) (a : Int) (hl : l.length ≤ 1099511627776) (hf : ∀ o ∈ l, GObj.fit o) (hk : ∀ o ∈ l, GObj.ok o) (hB : (secL l).length ≤ 1048576) (hW : cntS wordsS (secL l) ≤ 1048576) : Con 23 [.ro 2 (GObj.ros l), .int .i64 a] (.tup [.ow 3 (GPlaced.ows (placeL l a)), .int .i64 (placeE l a), .int .i64 (placeC l a)]) [none, none] := by
  have lm : (GObj.ros l).length = l.length := by simp
  have hnl : (namesOf l).length ≤ 1048576 := Nat.le_trans (namesP_len _) hB
  have ln : (GString.ros (namesOf l)).length = (namesOf l).length := by simp
  refine con Tryz.func23 ?_
  refine ⟨{ i : Nat // i ≤ l.length ∧ ∀ o ∈ l.take i, objE o = true }, fun i => ⟨[(0, .ro 2 (GObj.ros l)), (1, .int .i64 a), (15, .ro 2 (GObj.ros l)), (16, .int .i64 l.length), (17, .int .i64 i.1)], []⟩, fun i => l.length - i.1, ⟨0, Nat.zero_le _, fun o h => by cases h⟩, ?_, ?_⟩
  · exact ⟨rfl, rfl, rfl, congrArg (AV.int .i64) (by rw [lm]), rfl, trivial⟩
  · rintro ⟨i, hi, hp⟩
    dsimp only
    refine ⟨fun h => ?_, fun h => ?_⟩ <;> simp only [decide_eq_true_eq, decide_eq_false_iff_not] at h
    · have hi : i < l.length := by omega
      have ho := obj_row (List.getElem?_eq_getElem hi)
      refine ⟨Int.natCast_nonneg _, _, ho, [.ro], .bool (objE l[i]), [none], impl_ObjOk l[i] (hf _ (List.getElem_mem hi)) (hk _ (List.getElem_mem hi)), trivial, fun h => ?_, fun h => ?_⟩ <;> simp only [Bool.not_eq_true', Bool.not_eq_false'] at h
      · have hno : ¬ objsP l := fun k => by rw [k _ (List.getElem_mem hi)] at h; cases h
        exact ⟨.of_eq (tupP (place_obj hno)), trivial⟩
      · have hp' : ∀ o ∈ l.take (i + 1), objE o = true := fun o ho => by
          rw [List.take_add_one, List.getElem?_eq_getElem hi] at ho
          rcases List.mem_append.1 ho with ho | ho
          · exact hp o ho
          · rw [List.mem_singleton.1 ho]; exact h
        exact ⟨⟨i + 1, hi, hp'⟩, Nat.sub_succ_lt_self _ _ hi, rfl, rfl, rfl, rfl, congrArg (AV.int .i64) (w64 (by omega) (by omega)), trivial⟩
    · have hi : i = l.length := by omega
      subst hi
      rw [List.take_length] at hp
      have hp : objsP l := hp
      refine ⟨[.ro], .bool (adrE a), [none], impl_isAddrE a, trivial, fun h => ?_, fun h => ?_⟩ <;> simp only [Bool.not_eq_true', Bool.not_eq_false'] at h
      · exact ⟨.of_eq (tupP (place_adr hp h)), trivial⟩
      · have had := h
        have ha : 0 ≤ a ∧ a ≤ 510 := by
          rw [adrE, Bool.and_eq_true] at h
          exact inI_true.1 h.1
        refine ⟨[.ro], .ro 1 (GString.ros (namesOf l)), [none], (impl_sectNames l hl hf hB).sim (by simp) (str_ro _), trivial, ?_⟩
        refine ⟨{ j : Nat // j ≤ (namesOf l).length ∧ okNs l ((namesOf l).take j) }, fun j => ⟨[(0, .ro 2 (GObj.ros l)), (1, .int .i64 (plcA l a ((namesOf l).take j.1)).2), (9, .own 0), (30, .ro 1 (GString.ros (namesOf l))), (31, .int .i64 (namesOf l).length), (32, .int .i64 j.1)], [(0, .rows 3 (GPlaced.ows (plcA l a ((namesOf l).take j.1)).1) [])]⟩, fun j => (namesOf l).length - j.1, ⟨0, Nat.zero_le _, fun n h => by cases h⟩, ?_, ?_⟩
        · exact ⟨rfl, rfl, rfl, congrArg (AV.int .i64) (by rw [ln]), rfl, rfl, .refl _, trivial⟩
        · rintro ⟨j, hj, hok⟩
          dsimp only
          refine ⟨fun h => ?_, fun h => ?_⟩ <;> simp only [decide_eq_true_eq, decide_eq_false_iff_not] at h
          · have hj : j < (namesOf l).length := by omega
            have hr := str_row hj
            have hsn := plcA_snoc l a ((namesOf l).take j) (namesOf l)[j]
            have htk : (namesOf l).take (j + 1) = (namesOf l).take j ++ [(namesOf l)[j]] := by rw [List.take_add_one, List.getElem?_eq_getElem hj]; rfl
            obtain ⟨b1, b2, b3⟩ := plcA_bounds l a ((namesOf l).take j) hB hW (by rw [List.length_take]; omega) ha.1 ha.2
            obtain ⟨c1, c2, c3, c4⟩ := plcs_b (plcA l a ((namesOf l).take j)).2 (namesOf l)[j] l (secL l) [] (by rw [List.append_nil]) hB hW
            have cN := impl_placeName l (namesOf l)[j] (plcA l a ((namesOf l).take j)).2 hl hf hB hW b2 (by omega)
            have okS : okNs l ((namesOf l).take (j + 1)) ↔ okNs l ((namesOf l).take j) ∧ okP (ofN (namesOf l)[j] (secL l)) := by rw [htk]; exact okNs_snoc
            rw [← htk] at hsn
            refine ⟨Int.natCast_nonneg _, _, hr, ?_⟩
            by_cases hM : okP (ofN (namesOf l)[j] (secL l))
            · rw [placeR, if_pos (okM_true.2 hM)] at cN
              refine ⟨[.ro, .ro, .ro], .tup [.ow 3 (GPlaced.ows (plcs (plcA l a ((namesOf l).take j)).2 (ofN (namesOf l)[j] (secL l))).1), .int .i64 (plcs (plcA l a ((namesOf l).take j)).2 (ofN (namesOf l)[j] (secL l))).2, .tt], [none, none, none], cN, trivial, ?_⟩
              refine ⟨trivial, (by show ((GPlaced.ows _).length + (GPlaced.ows _).length) * 24 ≤ _; rw [placed_len, placed_len]; omega), placed_plain _, ?_⟩
              refine ⟨⟨j + 1, hj, okS.2 ⟨hok, hM⟩⟩, Nat.sub_succ_lt_self _ _ hj, ?_⟩
              dsimp only
              rw [hsn]
              exact ⟨rfl, rfl, rfl, rfl, congrArg (AV.int .i64) (w64 (by omega) (by omega)), rfl, .of_eq (placed_cat _ _), trivial⟩
            · rw [placeR, if_neg (fun k => hM (okM_true.1 k))] at cN
              refine ⟨[.ro, .ro, .ro], .tup [.ow 3 [], .int .i64 0, .ff], [none, none, none], cN, trivial, ?_⟩
              have hno : ¬ okNs l (namesOf l) := fun k => hM (k _ (List.getElem_mem hj))
              exact ⟨.of_eq (tupP (place_two hp had hno)), trivial⟩
          · have hj : j = (namesOf l).length := by omega
            subst hj
            rw [List.take_length] at hok ⊢
            obtain ⟨b1, b2, b3⟩ := plcA_bounds l a (namesOf l) hB hW hnl ha.1 ha.2
            refine ⟨fun h => ?_, fun h => ?_⟩ <;> simp only [decide_eq_true_eq, decide_eq_false_iff_not] at h
            · exact ⟨.of_eq (tupP (place_big hp had hok h)), trivial⟩
            · obtain ⟨f1, f2, f3, f4, f5⟩ := plcA_facts l a (namesOf l)
              have hsl := (secL_sorted l (obj8 hp)).2
              have cS := con_SortP (plcA l a (namesOf l)).1 b1 (fun p hp => by
                obtain ⟨t, ht, e1, e2⟩ := f5 p hp
                have := hsl t ht
                exact ⟨by omega, by omega, by omega, by omega⟩) (plcA_nodup l (obj8 hp) a (namesOf l) (namesP_nodup _))
              refine ⟨[.muts 3, .ro], .tup [], [some (.ow 3 (GPlaced.ows (ordK keyP (plcA l a (namesOf l)).1))), none], cS, trivial, ?_⟩
              exact ⟨.of_eq (tupP (place_fine hp had hok h)), trivial⟩
theorem codeA_snoc {l : List GObj} {ns : List GString} {n : GString} : codeOf (codeA l ns) (ofN n (secL l)) = codeA l (ns ++ [n]) := by
  by_cases h2 : okP (ofN n (secL l))
  · rw [codeOf, if_pos (okM_true.2 h2)]
    by_cases h1 : okNs l ns
    · rw [codeA_yes h1, codeA_yes (okNs_snoc.2 ⟨h1, h2⟩)]
    · rw [codeA_no h1, codeA_no fun k => h1 (okNs_snoc.1 k).1]
  · rw [codeOf, if_neg (fun k => h2 (okM_true.1 k)), codeA_no fun k => h2 (okNs_snoc.1 k).2]
theorem codeA_nil {l : List GObj} : codeA l [] = 0 := codeA_yes fun n h => by cases h
theorem tupPs {l l' : List GPlaced} {e e' c c' : Int} (h : c = c' ∧ l = l' ∧ e = e') : Sim (AV.tup [.ow 3 (GPlaced.ows l'), .int .i64 e', .int .i64 c']) (AV.tup [.ro 3 (GPlaced.ros l), .int .i64 e, .int .i64 c]) := by
  obtain ⟨rfl, rfl, rfl⟩ := h
  exact .trans (.frz _) (.of_eq (by show AV.tup [.ro 3 (toRoRows _), _, _] = _; rw [GPlaced.roo]; rfl))
theorem spec_PlaceAll (l : List GObj) (a : Int) (hl : l.length ≤ 1099511627776) (hf : ∀ o ∈ l, GObj.fit o) (hk : ∀ o ∈ l, GObj.ok o) (hB : (secL l).length ≤ 1048576) (hW : cntS wordsS (secL l) ≤ 1048576) : Con 21 [.ro 2 (GObj.ros l), .int .i64 a] (.tup [.ro 3 (GPlaced.ros (placeL l a)), .int .i64 (placeE l a), .int .i64 (placeC l a)]) [none, none] := by
  have lm : (GObj.ros l).length = l.length := by simp
  have hnl : (namesOf l).length ≤ 1048576 := Nat.le_trans (namesP_len _) hB
  have ln : (GString.ros (namesOf l)).length = (namesOf l).length := by simp
  refine conI [] (fun i => bif Nat.beq i 19 then some (9, 114) else none) (fun _ => false) Tryz.func21 (fun _ h => by cases h) ?_
  refine ⟨{ i : Nat // i ≤ l.length ∧ ∀ o ∈ l.take i, objE o = true }, fun i => ⟨[(0, .ro 2 (GObj.ros l)), (1, .int .i64 a), (7, .own 0), (8, .int .i64 i.1)], [(0, .rows 3 (GPlaced.ows []) [])]⟩, fun i => l.length - i.1, ⟨0, Nat.zero_le _, fun o h => by cases h⟩, ?_, ?_⟩
  · exact ⟨rfl, rfl, rfl, rfl, .refl _, trivial⟩
  · rintro ⟨i, hi, hp⟩
    dsimp only
    refine ⟨fun h => ?_, fun h => ?_⟩ <;> simp only [lm, decide_eq_true_eq, decide_eq_false_iff_not] at h
    · have hi : i < l.length := by omega
      have ho := obj_row (List.getElem?_eq_getElem hi)
      refine ⟨Int.natCast_nonneg _, _, ho, [.ro], .bool (objE l[i]), [none], spec_ObjOk l[i] (hf _ (List.getElem_mem hi)) (hk _ (List.getElem_mem hi)), trivial, fun h => ?_, fun h => ?_⟩ <;> simp only [Bool.not_eq_true', Bool.not_eq_false'] at h
      · have hno : ¬ objsP l := fun k => by rw [k _ (List.getElem_mem hi)] at h; cases h
        exact ⟨tupPs (place_obj hno), trivial⟩
      · have hp' : ∀ o ∈ l.take (i + 1), objE o = true := fun o ho => by
          rw [List.take_add_one, List.getElem?_eq_getElem hi] at ho
          rcases List.mem_append.1 ho with ho | ho
          · exact hp o ho
          · rw [List.mem_singleton.1 ho]; exact h
        exact ⟨⟨i + 1, hi, hp'⟩, Nat.sub_succ_lt_self _ _ hi, rfl, rfl, congrArg (AV.int .i64) (w64 (by omega) (by omega)), rfl, .refl _, trivial⟩
    · have hi : i = l.length := by omega
      subst hi
      rw [List.take_length] at hp
      have hp : objsP l := hp
      refine ⟨[.ro, .ro, .ro], .bool (inI a 0 510), [none, none, none], spec_l1In a 0 510, trivial, fun h => ?_, fun h => ?_⟩ <;> simp only [Bool.not_eq_true', Bool.not_eq_false'] at h
      · refine ⟨by decide, fun h2 => ?_, fun h2 => ?_⟩
        · have had : adrE a = false := by
            have h3 := of_decide_eq_true h2
            rw [Int.tmod_eq_emod_of_nonneg (inI_true.1 h).1] at h3
            rw [adrE, h, decide_eq_false h3]; rfl
          exact ⟨tupPs (place_adr hp had), trivial⟩
        · have had : adrE a = true := by
            have h3 := of_decide_eq_false h2
            rw [Int.tmod_eq_emod_of_nonneg (inI_true.1 h).1] at h3
            rw [adrE, h, decide_eq_true (Classical.not_not.1 h3)]; rfl
          have ha := inI_true.1 h
          refine ⟨[.ro], .ro 1 (GString.ros (namesOf l)), [none], (spec_l20Names l hl hf hB).sim (by simp) (str_ro _), trivial, ?_⟩
          refine ⟨{ j : Nat // j ≤ (namesOf l).length }, fun j => ⟨[(0, .ro 2 (GObj.ros l)), (7, .ro 3 (GPlaced.ros [])), (9, .ptr 0 0 0), (10, .ro 1 (GString.ros (namesOf l))), (11, .int .i64 j.1)], [(0, .box (passB (plcA l a ((namesOf l).take j.1)).2 (plcA l a ((namesOf l).take j.1)).1 (codeA l ((namesOf l).take j.1))) [])]⟩, fun j => (namesOf l).length - j.1, ⟨0, Nat.zero_le _⟩, ?_, ?_⟩
          · exact ⟨rfl, rfl, rfl, rfl, rfl, rfl, .of_eq (by show [passB a [] 0] = [passB a [] (codeA l [])]; rw [codeA_nil]), trivial⟩
          · rintro ⟨j, hj⟩
            dsimp only
            refine ⟨fun h => ?_, fun h => ?_⟩ <;> simp only [ln, decide_eq_true_eq, decide_eq_false_iff_not] at h
            · have hj : j < (namesOf l).length := by omega
              have hr := str_row hj
              have htk : (namesOf l).take (j + 1) = (namesOf l).take j ++ [(namesOf l)[j]] := by rw [List.take_add_one, List.getElem?_eq_getElem hj]; rfl
              obtain ⟨b1, b2, b3⟩ := plcA_bounds l a ((namesOf l).take j) hB hW (by rw [List.length_take]; omega) ha.1 ha.2
              have cN := spec_l20Name l (namesOf l)[j] (plcA l a ((namesOf l).take j)).2 (plcA l a ((namesOf l).take j)).1 (codeA l ((namesOf l).take j)) hl hf hB hW (by omega) b2 (by omega)
              refine ⟨Int.natCast_nonneg _, _, hr, [.mut, .ro, .ro], .tup [], [some (.pb (passB (plcs (plcA l a ((namesOf l).take j)).2 (ofN (namesOf l)[j] (secL l))).2 ((plcA l a ((namesOf l).take j)).1 ++ (plcs (plcA l a ((namesOf l).take j)).2 (ofN (namesOf l)[j] (secL l))).1) (codeOf (codeA l ((namesOf l).take j)) (ofN (namesOf l)[j] (secL l))))), none, none], cN, trivial, ?_⟩
              refine ⟨⟨j + 1, hj⟩, Nat.sub_succ_lt_self _ _ hj, rfl, rfl, rfl, rfl, rfl, congrArg (AV.int .i64) (w64 (by omega) (by omega)), .of_eq ?_, trivial⟩
              dsimp only
              rw [htk, plcA_snoc, ← codeA_snoc]; rfl
            · have hj : j = (namesOf l).length := by omega
              subst hj
              rw [List.take_length]
              obtain ⟨b1, b2, b3⟩ := plcA_bounds l a (namesOf l) hB hW hnl ha.1 ha.2
              refine ⟨fun h => ?_, fun h => ?_⟩ <;> simp only [decide_eq_true_eq, decide_eq_false_iff_not] at h
              · have hno : ¬ okNs l (namesOf l) := fun k => h (codeA_yes k)
                rw [codeA_no hno]
                exact ⟨by kernel_rfl, .of_eq (tupPr (place_two hp had hno)), trivial⟩
              · have hok : okNs l (namesOf l) := Classical.byContradiction fun k => by rw [codeA_no k] at h; exact h (by decide)
                refine ⟨fun h => ?_, fun h => ?_⟩ <;> simp only [decide_eq_true_eq, decide_eq_false_iff_not] at h
                · exact ⟨.of_eq (tupPr (place_big hp had hok h)), trivial⟩
                · obtain ⟨f1, f2, f3, f4, f5⟩ := plcA_facts l a (namesOf l)
                  have hsl := (secL_sorted l (obj8 hp)).2
                  have cO := spec_l20Order (plcA l a (namesOf l)).1 b1 (fun p hp => by
                    obtain ⟨t, ht, e1, e2⟩ := f5 p hp
                    have := hsl t ht
                    exact ⟨by omega, by omega⟩)
                  refine ⟨[.ro], .ow 3 (GPlaced.ows (ordK keyP (plcA l a (namesOf l)).1)), [none], (by rw [GPlaced.roo]; exact cO), ⟨GPlaced.nro _, trivial⟩, ?_⟩
                  exact ⟨by kernel_rfl, tupPs (place_fine hp had hok h), trivial⟩
      · exact ⟨tupPs (place_adr hp (by rw [adrE, h]; rfl)), trivial⟩
theorem placeL_len (l : List GObj) (a : Int) (hB : (secL l).length ≤ 1048576) : (placeL l a).length ≤ 1099511627776 := by
  rw [placeL]
  split
  · have f4 := (plcA_facts l a (namesOf l)).2.2.2.1
    have hn : (namesOf l).length ≤ 1048576 := Nat.le_trans (namesP_len _) hB
    have m1 : (namesOf l).length * (secL l).length ≤ 1048576 * 1048576 := Nat.mul_le_mul hn hB
    rw [ordK_len]; omega
  · simp
end Go.Proofs.VI
