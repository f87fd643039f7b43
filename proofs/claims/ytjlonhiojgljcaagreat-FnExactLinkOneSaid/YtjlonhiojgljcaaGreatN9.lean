/- Contracts of functions, and what they rest on: l20nm2. -/
import Derived.Test.YtjlonhiojgljcaaGreatN8
set_option linter.unusedVariables false
set_option linter.unusedSimpArgs false
set_option maxRecDepth 10000
set_option maxHeartbeats 4000000
namespace Go.Proofs.VI
open Go
def passB (a : Int) (L : List GPlaced) (c : Int) : List AV := [.int .i64 a, .ow 3 (GPlaced.ows L), .int .i64 c]
theorem spec_l20Name (l : List GObj) (n : GString) (a : Int) (L : List GPlaced) (c : Int) (hl : l.length ≤ 1099511627776) (hf : ∀ o ∈ l, GObj.fit o) (hB : (secL l).length ≤ 1048576) (hW : cntS wordsS (secL l) ≤ 1048576) (hL : L.length ≤ 2199023255552) (h0 : 0 ≤ a) (h1 : a ≤ 1125899906842624) : Con 78 [.pb (passB a L c), .ro 2 (GObj.ros l), .str n] (.tup []) [some (.pb (passB (plcs a (ofN n (secL l))).2 (L ++ (plcs a (ofN n (secL l))).1) (codeOf c (ofN n (secL l))))), none, none] := by
  have lm : (GObj.ros l).length = l.length := by simp
  refine con Tryz.func78 ?_
  refine ⟨{ i : Nat // i ≤ l.length }, fun i => ⟨[(0, .ptr 0 0 0), (1, .ro 2 (GObj.ros l)), (2, .str n), (6, .int .i64 a), (7, .int .i64 (plcs a (ofN n (secL (l.take i.1)))).2), (8, .bool (ofN n (secL (l.take i.1))).isEmpty), (9, .bool (lstO (ofN n (secL (l.take i.1))))), (10, .int .i64 i.1)], [(0, .box (passB a (L ++ (plcs a (ofN n (secL (l.take i.1)))).1) (codeOf c (ofN n (secL (l.take i.1))))) [])]⟩, fun i => l.length - i.1, ⟨0, Nat.zero_le _⟩, ?_, ?_⟩
  · exact ⟨rfl, rfl, rfl, rfl, rfl, rfl, rfl, rfl, rfl, .of_eq (by show [passB a L c] = [passB a (L ++ []) (codeOf c [])]; rw [List.append_nil, code_nil]), trivial⟩
  · rintro ⟨i, hi⟩
    dsimp only
    refine ⟨fun h => ?_, fun h => ?_⟩ <;> simp only [lm, decide_eq_true_eq, decide_eq_false_iff_not] at h
    · have hi : i < l.length := by omega
      have ho := obj_row (List.getElem?_eq_getElem hi)
      have fo := GObj.fit_un (hf _ (List.getElem_mem hi))
      have hnx := secL_take l i hi
      have hpre := secL_pre l i hi
      have hwb := words_b l i hi
      obtain ⟨o, hO⟩ : ∃ o, o = l[i] := ⟨_, rfl⟩
      simp only [← hO] at ho fo hnx hpre hwb
      have ls : (GSect.ros o.sects).length = o.sects.length := by simp
      refine ⟨{ k : Nat // k ≤ o.sects.length }, fun k => ⟨[(0, .ptr 0 0 0), (1, .ro 2 (GObj.ros l)), (2, .str n), (6, .int .i64 a), (7, .int .i64 (plcs a (ofN n (secL (l.take i) ++ (secO i o).take k.1))).2), (8, .bool (ofN n (secL (l.take i) ++ (secO i o).take k.1)).isEmpty), (9, .bool (lstO (ofN n (secL (l.take i) ++ (secO i o).take k.1)))), (10, .int .i64 i), (11, .int .i64 k.1)], [(0, .box (passB a (L ++ (plcs a (ofN n (secL (l.take i) ++ (secO i o).take k.1))).1) (codeOf c (ofN n (secL (l.take i) ++ (secO i o).take k.1)))) [])]⟩, fun k => o.sects.length - k.1, ⟨0, Nat.zero_le _⟩, ?_, ?_⟩
      · have e0 : secL (l.take i) ++ (secO i o).take 0 = secL (l.take i) := by rw [List.take_zero, List.append_nil]
        dsimp only
        rw [e0]
        exact ⟨rfl, rfl, rfl, rfl, rfl, rfl, rfl, rfl, rfl, rfl, .refl _, trivial⟩
      · rintro ⟨k, hk⟩
        dsimp only
        refine ⟨Int.natCast_nonneg _, _, ho, fun h => ?_, fun h => ?_⟩ <;> simp only [ls, decide_eq_true_eq, decide_eq_false_iff_not] at h
        · have hk : k < o.sects.length := by omega
          have hs := sect_row (List.getElem?_eq_getElem hk)
          have hst := secO_take i o k hk
          have hwk := hwb k hk
          obtain ⟨N, hN⟩ := hpre k
          obtain ⟨b1, b2, b3, b4⟩ := plcs_b a n l _ N hN hB hW
          have hP1 : secL (l.take i) ++ (secO i o).take (k + 1) = (secL (l.take i) ++ (secO i o).take k) ++ [(i, k, o.sects[k])] := by rw [hst, ← List.append_assoc]
          have lw := ros_len o.sects[k].words
          refine ⟨Int.natCast_nonneg _, _, ho, Int.natCast_nonneg _, _, hs, fun h => ?_, fun h => ?_⟩
          · have hn : ¬ o.sects[k].name = n := by simpa using h
            have e := ofN_no (P := secL (l.take i) ++ (secO i o).take k) (t := (i, k, o.sects[k])) hn
            refine ⟨⟨k + 1, hk⟩, Nat.sub_succ_lt_self _ _ hk, ?_⟩
            dsimp only
            rw [hP1, e]
            exact ⟨rfl, rfl, rfl, rfl, rfl, rfl, rfl, rfl, rfl, congrArg (AV.int .i64) (w64 (by omega) (by omega)), .refl _, trivial⟩
          · have hn : o.sects[k].name = n := by simpa using h
            have e := ofN_yes (P := secL (l.take i) ++ (secO i o).take k) (t := (i, k, o.sects[k])) hn
            have ep := plcs_snoc a (ofN n (secL (l.take i) ++ (secO i o).take k)) (i, k, o.sects[k])
            rw [← e, ← hP1] at ep
            have hl2 : lstO (ofN n (secL (l.take i) ++ (secO i o).take (k + 1))) = o.sects[k].over := by rw [hP1, e, lstO_snoc]
            have hE : (ofN n (secL (l.take i) ++ (secO i o).take (k + 1))).isEmpty = false := by rw [hP1, e, isE_snoc]
            have hlm := fun hM => lstO_mem (M := ofN n (secL (l.take i) ++ (secO i o).take k)) hM
            have hcb : ∀ u ∈ ofN n (secL (l.take i) ++ (secO i o).take k), u.2.2.over ≠ o.sects[k].over → codeOf c (ofN n (secL (l.take i) ++ (secO i o).take (k + 1))) = 2 := fun u hu h => by rw [hP1, e]; exact code_bad hu h
            have hcs : ∀ u ∈ ofN n (secL (l.take i) ++ (secO i o).take k), u.2.2.over = o.sects[k].over → codeOf c (ofN n (secL (l.take i) ++ (secO i o).take (k + 1))) = codeOf c (ofN n (secL (l.take i) ++ (secO i o).take k)) := fun u hu h => by rw [hP1, e]; exact code_same hu h
            have hc1 : ofN n (secL (l.take i) ++ (secO i o).take k) = [] → codeOf c (ofN n (secL (l.take i) ++ (secO i o).take (k + 1))) = codeOf c (ofN n (secL (l.take i) ++ (secO i o).take k)) := fun hM => by rw [hP1, e, hM]; exact code_one.trans code_nil.symm
            clear e
            generalize ofN n (secL (l.take i) ++ (secO i o).take k) = M at *
            refine ⟨fun h => ?_, fun h => ?_⟩
            · have hM : M ≠ [] := fun e => by rw [e] at h; cases h
              obtain ⟨u, hu, hue⟩ := hlm hM
              refine ⟨fun h2 => ?_, fun h2 => ?_⟩
              · have hne : u.2.2.over ≠ o.sects[k].over := by rw [hue]; exact fun e => by simp [e] at h2
                refine ⟨fun h3 => ?_, fun h3 => ?_⟩
                · refine ⟨trivial, (by show ((GPlaced.ows _).length + 1) * 24 ≤ _; rw [placed_len, List.length_append]; omega), ⟨⟨trivial, trivial, trivial, trivial⟩, trivial⟩, ?_⟩
                  have hw : IntKind.wrap .i64 (a + IntKind.wrap .i64 (2 * ((GExpr.ros o.sects[k].words).length : Int))) = a + 2 * (o.sects[k].words.length : Int) := by rw [lw, w64 (x := 2 * (o.sects[k].words.length : Int)) (by omega) (by omega), w64 (by omega) (by omega)]
                  refine ⟨fun h4 => ?_, fun h4 => ?_⟩ <;> rw [hw] at h4 <;> simp only [decide_eq_true_eq, decide_eq_false_iff_not] at h4
                  · refine ⟨⟨k + 1, hk⟩, Nat.sub_succ_lt_self _ _ hk, rfl, rfl, rfl, rfl, rfl, congrArg (AV.int .i64) ?_, congrArg AV.bool hE.symm, congrArg AV.bool hl2.symm, rfl, congrArg (AV.int .i64) (w64 (by omega) (by omega)), .of_eq ?_, trivial⟩
                    · dsimp only
                      rw [ep]
                      simp only [plc, wordsS, h3, if_true, Bool.false_eq_true, if_false]
                      rw [hw]
                      omega
                    · dsimp only
                      rw [hcb u hu hne, ep]
                      simp only [plc, h3, if_true, Bool.false_eq_true, if_false]
                      rw [← List.append_assoc]
                      exact congrArg (fun q => [[AV.int .i64 a, .ow 3 q, .int .i64 _]]) (placed_cat _ [⟨(i : Int), (k : Int), _⟩])
                  · refine ⟨⟨k + 1, hk⟩, Nat.sub_succ_lt_self _ _ hk, rfl, rfl, rfl, rfl, rfl, congrArg (AV.int .i64) ?_, congrArg AV.bool hE.symm, congrArg AV.bool hl2.symm, rfl, congrArg (AV.int .i64) (w64 (by omega) (by omega)), .of_eq ?_, trivial⟩
                    · dsimp only
                      rw [ep]
                      simp only [plc, wordsS, h3, if_true, Bool.false_eq_true, if_false]
                      omega
                    · dsimp only
                      rw [hcb u hu hne, ep]
                      simp only [plc, h3, if_true, Bool.false_eq_true, if_false]
                      rw [← List.append_assoc]
                      exact congrArg (fun q => [[AV.int .i64 a, .ow 3 q, .int .i64 _]]) (placed_cat _ [⟨(i : Int), (k : Int), _⟩])
                · refine ⟨trivial, (by show ((GPlaced.ows _).length + 1) * 24 ≤ _; rw [placed_len, List.length_append]; omega), ⟨⟨trivial, trivial, trivial, trivial⟩, trivial⟩, ?_⟩
                  have hw : IntKind.wrap .i64 ((plcs a M).2 + IntKind.wrap .i64 (2 * ((GExpr.ros o.sects[k].words).length : Int))) = (plcs a M).2 + 2 * (o.sects[k].words.length : Int) := by rw [lw, w64 (x := 2 * (o.sects[k].words.length : Int)) (by omega) (by omega), w64 (by omega) (by omega)]
                  refine ⟨fun h4 => ?_, fun h4 => ?_⟩ <;> rw [hw] at h4 <;> simp only [decide_eq_true_eq, decide_eq_false_iff_not] at h4
                  · refine ⟨⟨k + 1, hk⟩, Nat.sub_succ_lt_self _ _ hk, rfl, rfl, rfl, rfl, rfl, congrArg (AV.int .i64) ?_, congrArg AV.bool hE.symm, congrArg AV.bool hl2.symm, rfl, congrArg (AV.int .i64) (w64 (by omega) (by omega)), .of_eq ?_, trivial⟩
                    · dsimp only
                      rw [ep]
                      simp only [plc, wordsS, h3, if_true, Bool.false_eq_true, if_false]
                      rw [hw]
                      omega
                    · dsimp only
                      rw [hcb u hu hne, ep]
                      simp only [plc, h3, if_true, Bool.false_eq_true, if_false]
                      rw [← List.append_assoc]
                      exact congrArg (fun q => [[AV.int .i64 a, .ow 3 q, .int .i64 _]]) (placed_cat _ [⟨(i : Int), (k : Int), _⟩])
                  · refine ⟨⟨k + 1, hk⟩, Nat.sub_succ_lt_self _ _ hk, rfl, rfl, rfl, rfl, rfl, congrArg (AV.int .i64) ?_, congrArg AV.bool hE.symm, congrArg AV.bool hl2.symm, rfl, congrArg (AV.int .i64) (w64 (by omega) (by omega)), .of_eq ?_, trivial⟩
                    · dsimp only
                      rw [ep]
                      simp only [plc, wordsS, h3, if_true, Bool.false_eq_true, if_false]
                      omega
                    · dsimp only
                      rw [hcb u hu hne, ep]
                      simp only [plc, h3, if_true, Bool.false_eq_true, if_false]
                      rw [← List.append_assoc]
                      exact congrArg (fun q => [[AV.int .i64 a, .ow 3 q, .int .i64 _]]) (placed_cat _ [⟨(i : Int), (k : Int), _⟩])
              · have heq : u.2.2.over = o.sects[k].over := hue.trans (show o.sects[k].over = lstO M by simpa using h2).symm
                refine ⟨fun h3 => ?_, fun h3 => ?_⟩
                · refine ⟨trivial, (by show ((GPlaced.ows _).length + 1) * 24 ≤ _; rw [placed_len, List.length_append]; omega), ⟨⟨trivial, trivial, trivial, trivial⟩, trivial⟩, ?_⟩
                  have hw : IntKind.wrap .i64 (a + IntKind.wrap .i64 (2 * ((GExpr.ros o.sects[k].words).length : Int))) = a + 2 * (o.sects[k].words.length : Int) := by rw [lw, w64 (x := 2 * (o.sects[k].words.length : Int)) (by omega) (by omega), w64 (by omega) (by omega)]
                  refine ⟨fun h4 => ?_, fun h4 => ?_⟩ <;> rw [hw] at h4 <;> simp only [decide_eq_true_eq, decide_eq_false_iff_not] at h4
                  · refine ⟨⟨k + 1, hk⟩, Nat.sub_succ_lt_self _ _ hk, rfl, rfl, rfl, rfl, rfl, congrArg (AV.int .i64) ?_, congrArg AV.bool hE.symm, congrArg AV.bool hl2.symm, rfl, congrArg (AV.int .i64) (w64 (by omega) (by omega)), .of_eq ?_, trivial⟩
                    · dsimp only
                      rw [ep]
                      simp only [plc, wordsS, h3, if_true, Bool.false_eq_true, if_false]
                      rw [hw]
                      omega
                    · dsimp only
                      rw [hcs u hu heq, ep]
                      simp only [plc, h3, if_true, Bool.false_eq_true, if_false]
                      rw [← List.append_assoc]
                      exact congrArg (fun q => [[AV.int .i64 a, .ow 3 q, .int .i64 _]]) (placed_cat _ [⟨(i : Int), (k : Int), _⟩])
                  · refine ⟨⟨k + 1, hk⟩, Nat.sub_succ_lt_self _ _ hk, rfl, rfl, rfl, rfl, rfl, congrArg (AV.int .i64) ?_, congrArg AV.bool hE.symm, congrArg AV.bool hl2.symm, rfl, congrArg (AV.int .i64) (w64 (by omega) (by omega)), .of_eq ?_, trivial⟩
                    · dsimp only
                      rw [ep]
                      simp only [plc, wordsS, h3, if_true, Bool.false_eq_true, if_false]
                      omega
                    · dsimp only
                      rw [hcs u hu heq, ep]
                      simp only [plc, h3, if_true, Bool.false_eq_true, if_false]
                      rw [← List.append_assoc]
                      exact congrArg (fun q => [[AV.int .i64 a, .ow 3 q, .int .i64 _]]) (placed_cat _ [⟨(i : Int), (k : Int), _⟩])
                · refine ⟨trivial, (by show ((GPlaced.ows _).length + 1) * 24 ≤ _; rw [placed_len, List.length_append]; omega), ⟨⟨trivial, trivial, trivial, trivial⟩, trivial⟩, ?_⟩
                  have hw : IntKind.wrap .i64 ((plcs a M).2 + IntKind.wrap .i64 (2 * ((GExpr.ros o.sects[k].words).length : Int))) = (plcs a M).2 + 2 * (o.sects[k].words.length : Int) := by rw [lw, w64 (x := 2 * (o.sects[k].words.length : Int)) (by omega) (by omega), w64 (by omega) (by omega)]
                  refine ⟨fun h4 => ?_, fun h4 => ?_⟩ <;> rw [hw] at h4 <;> simp only [decide_eq_true_eq, decide_eq_false_iff_not] at h4
                  · refine ⟨⟨k + 1, hk⟩, Nat.sub_succ_lt_self _ _ hk, rfl, rfl, rfl, rfl, rfl, congrArg (AV.int .i64) ?_, congrArg AV.bool hE.symm, congrArg AV.bool hl2.symm, rfl, congrArg (AV.int .i64) (w64 (by omega) (by omega)), .of_eq ?_, trivial⟩
                    · dsimp only
                      rw [ep]
                      simp only [plc, wordsS, h3, if_true, Bool.false_eq_true, if_false]
                      rw [hw]
                      omega
                    · dsimp only
                      rw [hcs u hu heq, ep]
                      simp only [plc, h3, if_true, Bool.false_eq_true, if_false]
                      rw [← List.append_assoc]
                      exact congrArg (fun q => [[AV.int .i64 a, .ow 3 q, .int .i64 _]]) (placed_cat _ [⟨(i : Int), (k : Int), _⟩])
                  · refine ⟨⟨k + 1, hk⟩, Nat.sub_succ_lt_self _ _ hk, rfl, rfl, rfl, rfl, rfl, congrArg (AV.int .i64) ?_, congrArg AV.bool hE.symm, congrArg AV.bool hl2.symm, rfl, congrArg (AV.int .i64) (w64 (by omega) (by omega)), .of_eq ?_, trivial⟩
                    · dsimp only
                      rw [ep]
                      simp only [plc, wordsS, h3, if_true, Bool.false_eq_true, if_false]
                      omega
                    · dsimp only
                      rw [hcs u hu heq, ep]
                      simp only [plc, h3, if_true, Bool.false_eq_true, if_false]
                      rw [← List.append_assoc]
                      exact congrArg (fun q => [[AV.int .i64 a, .ow 3 q, .int .i64 _]]) (placed_cat _ [⟨(i : Int), (k : Int), _⟩])
            · have hM : M = [] := by simpa using h
              refine ⟨fun h3 => ?_, fun h3 => ?_⟩
              · refine ⟨trivial, (by show ((GPlaced.ows _).length + 1) * 24 ≤ _; rw [placed_len, List.length_append]; omega), ⟨⟨trivial, trivial, trivial, trivial⟩, trivial⟩, ?_⟩
                have hw : IntKind.wrap .i64 (a + IntKind.wrap .i64 (2 * ((GExpr.ros o.sects[k].words).length : Int))) = a + 2 * (o.sects[k].words.length : Int) := by rw [lw, w64 (x := 2 * (o.sects[k].words.length : Int)) (by omega) (by omega), w64 (by omega) (by omega)]
                refine ⟨fun h4 => ?_, fun h4 => ?_⟩ <;> rw [hw] at h4 <;> simp only [decide_eq_true_eq, decide_eq_false_iff_not] at h4
                · refine ⟨⟨k + 1, hk⟩, Nat.sub_succ_lt_self _ _ hk, rfl, rfl, rfl, rfl, rfl, congrArg (AV.int .i64) ?_, congrArg AV.bool hE.symm, congrArg AV.bool hl2.symm, rfl, congrArg (AV.int .i64) (w64 (by omega) (by omega)), .of_eq ?_, trivial⟩
                  · dsimp only
                    rw [ep]
                    simp only [plc, wordsS, h3, if_true, Bool.false_eq_true, if_false]
                    rw [hw]
                    omega
                  · dsimp only
                    rw [hc1 hM, ep]
                    simp only [plc, h3, if_true, Bool.false_eq_true, if_false]
                    rw [← List.append_assoc]
                    exact congrArg (fun q => [[AV.int .i64 a, .ow 3 q, .int .i64 _]]) (placed_cat _ [⟨(i : Int), (k : Int), _⟩])
                · refine ⟨⟨k + 1, hk⟩, Nat.sub_succ_lt_self _ _ hk, rfl, rfl, rfl, rfl, rfl, congrArg (AV.int .i64) ?_, congrArg AV.bool hE.symm, congrArg AV.bool hl2.symm, rfl, congrArg (AV.int .i64) (w64 (by omega) (by omega)), .of_eq ?_, trivial⟩
                  · dsimp only
                    rw [ep]
                    simp only [plc, wordsS, h3, if_true, Bool.false_eq_true, if_false]
                    omega
                  · dsimp only
                    rw [hc1 hM, ep]
                    simp only [plc, h3, if_true, Bool.false_eq_true, if_false]
                    rw [← List.append_assoc]
                    exact congrArg (fun q => [[AV.int .i64 a, .ow 3 q, .int .i64 _]]) (placed_cat _ [⟨(i : Int), (k : Int), _⟩])
              · refine ⟨trivial, (by show ((GPlaced.ows _).length + 1) * 24 ≤ _; rw [placed_len, List.length_append]; omega), ⟨⟨trivial, trivial, trivial, trivial⟩, trivial⟩, ?_⟩
                have hw : IntKind.wrap .i64 ((plcs a M).2 + IntKind.wrap .i64 (2 * ((GExpr.ros o.sects[k].words).length : Int))) = (plcs a M).2 + 2 * (o.sects[k].words.length : Int) := by rw [lw, w64 (x := 2 * (o.sects[k].words.length : Int)) (by omega) (by omega), w64 (by omega) (by omega)]
                refine ⟨fun h4 => ?_, fun h4 => ?_⟩ <;> rw [hw] at h4 <;> simp only [decide_eq_true_eq, decide_eq_false_iff_not] at h4
                · refine ⟨⟨k + 1, hk⟩, Nat.sub_succ_lt_self _ _ hk, rfl, rfl, rfl, rfl, rfl, congrArg (AV.int .i64) ?_, congrArg AV.bool hE.symm, congrArg AV.bool hl2.symm, rfl, congrArg (AV.int .i64) (w64 (by omega) (by omega)), .of_eq ?_, trivial⟩
                  · dsimp only
                    rw [ep]
                    simp only [plc, wordsS, h3, if_true, Bool.false_eq_true, if_false]
                    rw [hw]
                    omega
                  · dsimp only
                    rw [hc1 hM, ep]
                    simp only [plc, h3, if_true, Bool.false_eq_true, if_false]
                    rw [← List.append_assoc]
                    exact congrArg (fun q => [[AV.int .i64 a, .ow 3 q, .int .i64 _]]) (placed_cat _ [⟨(i : Int), (k : Int), _⟩])
                · refine ⟨⟨k + 1, hk⟩, Nat.sub_succ_lt_self _ _ hk, rfl, rfl, rfl, rfl, rfl, congrArg (AV.int .i64) ?_, congrArg AV.bool hE.symm, congrArg AV.bool hl2.symm, rfl, congrArg (AV.int .i64) (w64 (by omega) (by omega)), .of_eq ?_, trivial⟩
                  · dsimp only
                    rw [ep]
                    simp only [plc, wordsS, h3, if_true, Bool.false_eq_true, if_false]
                    omega
                  · dsimp only
                    rw [hc1 hM, ep]
                    simp only [plc, h3, if_true, Bool.false_eq_true, if_false]
                    rw [← List.append_assoc]
                    exact congrArg (fun q => [[AV.int .i64 a, .ow 3 q, .int .i64 _]]) (placed_cat _ [⟨(i : Int), (k : Int), _⟩])
        · have hk : k = o.sects.length := by omega
          subst hk
          have e : (secL (l.take i) ++ (secO i o).take o.sects.length) = secL (l.take (i + 1)) := by rw [hnx, List.take_of_length_le (l := secO i o) (by rw [secO_len]; exact Nat.le_refl _)]
          rw [e]
          exact ⟨⟨i + 1, hi⟩, Nat.sub_succ_lt_self _ _ hi, rfl, rfl, rfl, rfl, rfl, rfl, rfl, rfl, congrArg (AV.int .i64) (w64 (by omega) (by omega)), .refl _, trivial⟩
    · have hi : i = l.length := by omega
      subst hi
      rw [List.take_length]
      exact ⟨.refl _, .refl _, trivial⟩
end Go.Proofs.VI
