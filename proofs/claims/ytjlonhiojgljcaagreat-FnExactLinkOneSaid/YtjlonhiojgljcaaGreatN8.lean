/- Contracts of functions, and what they rest on: l20name. -/
import Derived.Test.YtjlonhiojgljcaaGreatN7
set_option linter.unusedVariables false
set_option linter.unusedSimpArgs false
set_option maxRecDepth 10000
set_option maxHeartbeats 4000000
namespace Go.Proofs.VI
open Go
def fstO (M : List GSec) : Bool := match M with | [] => false | t :: _ => t.2.2.over
def lstO (M : List GSec) : Bool := match M.getLast? with | none => false | some t => t.2.2.over
theorem fstO_more {M : List GSec} (t : GSec) (h : M ≠ []) : fstO (M ++ [t]) = fstO M := by
  cases M with
  | nil => exact absurd rfl h
  | cons u M => rfl
theorem fstO_mem {M : List GSec} (h : M ≠ []) : ∃ u ∈ M, u.2.2.over = fstO M := by
  cases M with
  | nil => exact absurd rfl h
  | cons u M => exact ⟨u, List.mem_cons_self, rfl⟩
theorem lstO_snoc (M : List GSec) (t : GSec) : lstO (M ++ [t]) = t.2.2.over := by rw [lstO, List.getLast?_append]; rfl
theorem lstO_mem {M : List GSec} (h : M ≠ []) : ∃ u ∈ M, u.2.2.over = lstO M := by
  cases e : M.getLast? with
  | none => exact absurd (List.getLast?_eq_none_iff.1 e) h
  | some u => exact ⟨u, List.mem_of_getLast? e, by rw [lstO, e]⟩
theorem isE_snoc (M : List GSec) (t : GSec) : (M ++ [t]).isEmpty = false := by cases M <;> rfl
noncomputable def codeOf (c : Int) (M : List GSec) : Int := if okM M = true then c else 2
theorem okM_true {M : List GSec} : okM M = true ↔ okP M := by
  by_cases h : okP M
  · rw [okM, dec_true h]; exact ⟨fun _ => h, fun _ => rfl⟩
  · rw [okM, dec_false h]; exact ⟨fun k => Bool.noConfusion k, fun k => absurd k h⟩
theorem code_bad {c : Int} {M : List GSec} {t u : GSec} (hu : u ∈ M) (h : u.2.2.over ≠ t.2.2.over) : codeOf c (M ++ [t]) = 2 := by
  rw [codeOf, if_neg]
  rw [okM_true, okP_snoc]
  exact fun k => h (k.2 u hu)
theorem code_same {c : Int} {M : List GSec} {t u : GSec} (hu : u ∈ M) (h : u.2.2.over = t.2.2.over) : codeOf c (M ++ [t]) = codeOf c M := by
  by_cases k : okP M
  · rw [codeOf, codeOf, if_pos (okM_true.2 k), if_pos (okM_true.2 (okP_snoc.2 ⟨k, fun v hv => (k v hv u hu).trans h⟩))]
  · rw [codeOf, codeOf, if_neg (fun x => k (okM_true.1 x)), if_neg (fun x => k (okP_pre (okM_true.1 x)))]
theorem code_nil {c : Int} : codeOf c [] = c := if_pos (okM_true.2 fun t h => by cases h)
theorem code_one {c : Int} {t : GSec} : codeOf c [t] = c := if_pos (okM_true.2 fun a ha b hb => by rw [List.mem_singleton.1 ha, List.mem_singleton.1 hb])
theorem placed_cat (a b : List GPlaced) : GPlaced.ows a ++ GPlaced.ows b = GPlaced.ows (a ++ b) := List.map_append.symm
theorem placed_len (a : List GPlaced) : (GPlaced.ows a).length = a.length := by simp
theorem plcs_b (a : Int) (n : GString) (l : List GObj) (P N : List GSec) (he : secL l = P ++ N) (hB : (secL l).length ≤ 1048576) (hW : cntS wordsS (secL l) ≤ 1048576) : (plcs a (ofN n P)).1.length = (ofN n P).length ∧ (plcs a (ofN n P)).1.length ≤ 1048576 ∧ a ≤ (plcs a (ofN n P)).2 ∧ (plcs a (ofN n P)).2 ≤ a + 2097152 := by
  obtain ⟨f1, f2, f3, f4⟩ := plc_facts a (ofN n P) ([], a) (Int.le_refl _)
  have hc := cnt_filter wordsS (fun t => decide (t.2.2.name = n)) P
  have hl := List.length_filter_le (fun t : GSec => decide (t.2.2.name = n)) P
  have hlen : (plcs a (ofN n P)).1.length = (ofN n P).length := by
    have := congrArg List.length f1
    simpa [plcs] using this
  have hcs : ∀ A B : List GSec, cntS wordsS (A ++ B) = cntS wordsS A + cntS wordsS B := fun A B => by
    induction A with
    | nil => simp [cntS]
    | cons x A ih => simp only [List.cons_append, cntS, ih]; omega
  rw [he, List.length_append] at hB
  rw [he, hcs] at hW
  have h2 : (ofN n P).length ≤ P.length := hl
  have h3 : cntS wordsS (ofN n P) ≤ cntS wordsS P := hc
  have f2' : a ≤ (plcs a (ofN n P)).2 := f2
  have f3' : (plcs a (ofN n P)).2 ≤ a + 2 * (cntS wordsS (ofN n P) : Nat) := f3
  exact ⟨hlen, by omega, f2', by omega⟩
theorem words_b (l : List GObj) (i : Nat) (h : i < l.length) (k : Nat) (hk : k < l[i].sects.length) (hW : cntS wordsS (secL l) ≤ 1048576) : l[i].sects[k].words.length ≤ 1048576 := by
  obtain ⟨N, e⟩ := secL_pre l i h (k + 1)
  rw [secO_take i l[i] k hk] at e
  have hcs : ∀ A B : List GSec, cntS wordsS (A ++ B) = cntS wordsS A + cntS wordsS B := fun A B => by
    induction A with
    | nil => simp [cntS]
    | cons x A ih => simp only [List.cons_append, cntS, ih]; omega
  rw [e, hcs, hcs, hcs] at hW
  simp only [cntS, wordsS] at hW
  omega
noncomputable def placeR (l : List GObj) (n : GString) (a : Int) : AV := if okM (ofN n (secL l)) = true then .tup [.ow 3 (GPlaced.ows (plcs a (ofN n (secL l))).1), .int .i64 (plcs a (ofN n (secL l))).2, .bool true] else .tup [.ow 3 [], .int .i64 0, .bool false]
theorem place_bad {l : List GObj} {n : GString} {a : Int} {P N : List GSec} {t u : GSec} (he : secL l = (P ++ [t]) ++ N) (hn : t.2.2.name = n) (hu : u ∈ ofN n P) (h : u.2.2.over ≠ t.2.2.over) : AV.tup [.ow 3 [], .int .i64 0, .bool false] = placeR l n a := by
  rw [placeR, if_neg]
  rw [okM_true, he, ofN, List.filter_append]
  intro k
  have k := okP_pre k
  have e := ofN_yes (P := P) hn
  rw [ofN] at e
  rw [e, okP_snoc] at k
  exact h (k.2 u hu)
theorem impl_placeName (l : List GObj) (n : GString) (a : Int) (hl : l.length ≤ 1099511627776) (hf : ∀ o ∈ l, GObj.fit o) (hB : (secL l).length ≤ 1048576) (hW : cntS wordsS (secL l) ≤ 1048576) (h0 : 0 ≤ a) (h1 : a ≤ 1125899906842624) : Con 82 [.ro 2 (GObj.ros l), .str n, .int .i64 a] (placeR l n a) [none, none, none] := by
  have lm : (GObj.ros l).length = l.length := by simp
  refine con Tryz.func82 ?_
  refine ⟨{ i : Nat // i ≤ l.length ∧ okP (ofN n (secL (l.take i))) }, fun i => ⟨[(1, .str n), (2, .int .i64 a), (9, .own 0), (10, .int .i64 (plcs a (ofN n (secL (l.take i.1)))).2), (11, .bool (fstO (ofN n (secL (l.take i.1))))), (19, .ro 2 (GObj.ros l)), (20, .int .i64 l.length), (21, .int .i64 i.1)], [(0, .rows 3 (GPlaced.ows (plcs a (ofN n (secL (l.take i.1)))).1) [])]⟩, fun i => l.length - i.1, ⟨0, Nat.zero_le _, fun t h => by cases h⟩, ?_, ?_⟩
  · exact ⟨rfl, rfl, rfl, rfl, rfl, congrArg (AV.int .i64) (by rw [lm]), rfl, rfl, .refl _, trivial⟩
  · rintro ⟨i, hi, hok⟩
    dsimp only
    refine ⟨fun h => ?_, fun h => ?_⟩ <;> simp only [decide_eq_true_eq, decide_eq_false_iff_not] at h
    · have hi : i < l.length := by omega
      have ho := obj_row (List.getElem?_eq_getElem hi)
      have fo := GObj.fit_un (hf _ (List.getElem_mem hi))
      have hnx := secL_take l i hi
      have hpre := secL_pre l i hi
      have hwb := words_b l i hi
      obtain ⟨o, hO⟩ : ∃ o, o = l[i] := ⟨_, rfl⟩
      simp only [← hO] at ho fo hnx hpre hwb
      have ls : (GSect.ros o.sects).length = o.sects.length := by simp
      refine ⟨Int.natCast_nonneg _, _, ho, ?_⟩
      refine ⟨{ k : Nat // k ≤ o.sects.length ∧ okP (ofN n (secL (l.take i) ++ (secO i o).take k)) }, fun k => ⟨[(1, .str n), (2, .int .i64 a), (9, .own 0), (10, .int .i64 (plcs a (ofN n (secL (l.take i) ++ (secO i o).take k.1))).2), (11, .bool (fstO (ofN n (secL (l.take i) ++ (secO i o).take k.1)))), (12, .int .i64 i), (19, .ro 2 (GObj.ros l)), (20, .int .i64 l.length), (21, .int .i64 i), (27, .ro 3 (GSect.ros o.sects)), (28, .int .i64 o.sects.length), (29, .int .i64 k.1)], [(0, .rows 3 (GPlaced.ows (plcs a (ofN n (secL (l.take i) ++ (secO i o).take k.1))).1) [])]⟩, fun k => o.sects.length - k.1, ⟨0, Nat.zero_le _, by rw [List.take_zero, List.append_nil]; exact hok⟩, ?_, ?_⟩
      · have e0 : secL (l.take i) ++ (secO i o).take 0 = secL (l.take i) := by rw [List.take_zero, List.append_nil]
        dsimp only
        rw [e0]
        exact ⟨rfl, rfl, rfl, rfl, rfl, rfl, rfl, rfl, rfl, congrArg (AV.int .i64) (by rw [ls]), rfl, rfl, .refl _, trivial⟩
      · rintro ⟨k, hk, hok⟩
        dsimp only at hok ⊢
        refine ⟨fun h => ?_, fun h => ?_⟩ <;> simp only [decide_eq_true_eq, decide_eq_false_iff_not] at h
        · have hk : k < o.sects.length := by omega
          have hs := sect_row (List.getElem?_eq_getElem hk)
          have hst := secO_take i o k hk
          have hwk := hwb k hk
          obtain ⟨N, hN⟩ := hpre k
          obtain ⟨N', hN'⟩ := hpre (k + 1)
          obtain ⟨b1, b2, b3, b4⟩ := plcs_b a n l _ N hN hB hW
          rw [hst, ← List.append_assoc] at hN'
          have hP1 : secL (l.take i) ++ (secO i o).take (k + 1) = (secL (l.take i) ++ (secO i o).take k) ++ [(i, k, o.sects[k])] := by rw [hst, ← List.append_assoc]
          have lw := ros_len o.sects[k].words
          refine ⟨Int.natCast_nonneg _, _, hs, fun h => ?_, fun h => ?_⟩
          · have hn : ¬ o.sects[k].name = n := by simpa using h
            have e := ofN_no (P := secL (l.take i) ++ (secO i o).take k) (t := (i, k, o.sects[k])) hn
            have hok' : okP (ofN n (secL (l.take i) ++ (secO i o).take (k + 1))) := by rw [hP1, e]; exact hok
            refine ⟨⟨k + 1, hk, hok'⟩, Nat.sub_succ_lt_self _ _ hk, ?_⟩
            dsimp only
            rw [hP1, e]
            exact ⟨rfl, rfl, rfl, rfl, rfl, rfl, rfl, rfl, rfl, rfl, congrArg (AV.int .i64) (w64 (by omega) (by omega)), rfl, .refl _, trivial⟩
          · have hn : o.sects[k].name = n := by simpa using h
            have e := ofN_yes (P := secL (l.take i) ++ (secO i o).take k) (t := (i, k, o.sects[k])) hn
            have ep := plcs_snoc a (ofN n (secL (l.take i) ++ (secO i o).take k)) (i, k, o.sects[k])
            rw [← e, ← hP1] at ep
            have hbad : ∀ u ∈ ofN n (secL (l.take i) ++ (secO i o).take k), u.2.2.over ≠ o.sects[k].over → AV.tup [.ow 3 [], .int .i64 0, .bool false] = placeR l n a := fun u hu hne => place_bad hN' hn hu hne
            have hgood : (∀ u ∈ ofN n (secL (l.take i) ++ (secO i o).take k), u.2.2.over = o.sects[k].over) → okP (ofN n (secL (l.take i) ++ (secO i o).take (k + 1))) := fun hu => by rw [hP1, e, okP_snoc]; exact ⟨hok, hu⟩
            rw [hP1, e] at hgood
            have hf1 : ofN n (secL (l.take i) ++ (secO i o).take k) = [] → fstO (ofN n (secL (l.take i) ++ (secO i o).take (k + 1))) = o.sects[k].over := fun hM => by rw [hP1, e, hM]; rfl
            have hf2 := fun hM => fstO_more (M := ofN n (secL (l.take i) ++ (secO i o).take k)) (i, k, o.sects[k]) hM
            have hfm := fun hM => fstO_mem (M := ofN n (secL (l.take i) ++ (secO i o).take k)) hM
            rw [← e, ← hP1] at hf2
            have hP2 : okP (ofN n (secL (l.take i) ++ (secO i o).take k) ++ [(i, k, o.sects[k])]) → okP (ofN n (secL (l.take i) ++ (secO i o).take (k + 1))) := fun h => by rw [hP1, e]; exact h
            clear e
            generalize ofN n (secL (l.take i) ++ (secO i o).take k) = M at *
            refine ⟨fun h => ?_, fun h => ?_⟩ <;> simp only [placed_len, b1, decide_eq_true_eq, decide_eq_false_iff_not] at h
            · have hM : M = [] := List.length_eq_zero_iff.1 (by omega)
              subst hM
              refine ⟨fun h => absurd h (by simp), fun _ => ⟨fun h => ?_, fun h => ?_⟩⟩
              · refine ⟨trivial, (by show ((GPlaced.ows _).length + 1) * 24 ≤ _; rw [placed_len]; omega), ⟨⟨trivial, trivial, trivial, trivial⟩, trivial⟩, ?_⟩
                refine ⟨⟨k + 1, hk, hP2 ?_⟩, Nat.sub_succ_lt_self _ _ hk, rfl, rfl, congrArg (AV.int .i64) ?_, congrArg AV.bool ?_, rfl, rfl, rfl, rfl, rfl, rfl, congrArg (AV.int .i64) (w64 (by omega) (by omega)), rfl, .of_eq ?_, trivial⟩
                · exact fun a ha b hb => by rw [List.mem_singleton.1 ha, List.mem_singleton.1 hb]
                · rw [ep, lw]
                  simp only [plc, wordsS, h, if_true, Bool.false_eq_true, if_false]
                  rw [w64 (x := 2 * (o.sects[k].words.length : Int)) (by omega) (by omega), w64 (by omega) (by omega)]
                  simp only [cond_true]
                  omega
                · exact (hf1 rfl).symm
                · dsimp only
                  rw [ep]
                  simp only [plc, h, if_true, Bool.false_eq_true, if_false]
                  exact placed_cat _ [⟨(i : Int), (k : Int), _⟩]
              · refine ⟨trivial, (by show ((GPlaced.ows _).length + 1) * 24 ≤ _; rw [placed_len]; omega), ⟨⟨trivial, trivial, trivial, trivial⟩, trivial⟩, ?_⟩
                refine ⟨⟨k + 1, hk, hP2 ?_⟩, Nat.sub_succ_lt_self _ _ hk, rfl, rfl, congrArg (AV.int .i64) ?_, congrArg AV.bool ?_, rfl, rfl, rfl, rfl, rfl, rfl, congrArg (AV.int .i64) (w64 (by omega) (by omega)), rfl, .of_eq ?_, trivial⟩
                · exact fun a ha b hb => by rw [List.mem_singleton.1 ha, List.mem_singleton.1 hb]
                · rw [ep, lw]
                  simp only [plc, wordsS, h, if_true, Bool.false_eq_true, if_false]
                  rw [w64 (x := 2 * (o.sects[k].words.length : Int)) (by omega) (by omega), w64 (by omega) (by omega)]
                  simp only [cond_true]
                  omega
                · exact (hf1 rfl).symm
                · dsimp only
                  rw [ep]
                  simp only [plc, h, if_true, Bool.false_eq_true, if_false]
                  exact placed_cat _ [⟨(i : Int), (k : Int), _⟩]
            · have hM : M ≠ [] := fun e => h (by rw [e]; rfl)
              obtain ⟨u, hu, hue⟩ := hfm hM
              refine ⟨fun h => ⟨.of_eq (hbad u hu (by rw [hue]; exact fun e => by simp [e] at h)), trivial⟩, fun h2 => ⟨fun h => ?_, fun h => ?_⟩⟩
              · refine ⟨trivial, (by show ((GPlaced.ows _).length + 1) * 24 ≤ _; rw [placed_len]; omega), ⟨⟨trivial, trivial, trivial, trivial⟩, trivial⟩, ?_⟩
                refine ⟨⟨k + 1, hk, hP2 ?_⟩, Nat.sub_succ_lt_self _ _ hk, rfl, rfl, congrArg (AV.int .i64) ?_, congrArg AV.bool ?_, rfl, rfl, rfl, rfl, rfl, rfl, congrArg (AV.int .i64) (w64 (by omega) (by omega)), rfl, .of_eq ?_, trivial⟩
                · exact okP_snoc.2 ⟨hok, fun v hv => (hok v hv u hu).trans (hue.trans (show o.sects[k].over = fstO M by simpa using h2).symm)⟩
                · rw [ep, lw]
                  simp only [plc, wordsS, h, if_true, Bool.false_eq_true, if_false]
                  rw [w64 (x := 2 * (o.sects[k].words.length : Int)) (by omega) (by omega), w64 (by omega) (by omega)]
                  simp only [cond_true]
                  omega
                · exact (hf2 hM).symm
                · dsimp only
                  rw [ep]
                  simp only [plc, h, if_true, Bool.false_eq_true, if_false]
                  exact placed_cat _ [⟨(i : Int), (k : Int), _⟩]
              · refine ⟨trivial, (by show ((GPlaced.ows _).length + 1) * 24 ≤ _; rw [placed_len]; omega), ⟨⟨trivial, trivial, trivial, trivial⟩, trivial⟩, ?_⟩
                refine ⟨⟨k + 1, hk, hP2 ?_⟩, Nat.sub_succ_lt_self _ _ hk, rfl, rfl, congrArg (AV.int .i64) ?_, congrArg AV.bool ?_, rfl, rfl, rfl, rfl, rfl, rfl, congrArg (AV.int .i64) (w64 (by omega) (by omega)), rfl, .of_eq ?_, trivial⟩
                · exact okP_snoc.2 ⟨hok, fun v hv => (hok v hv u hu).trans (hue.trans (show o.sects[k].over = fstO M by simpa using h2).symm)⟩
                · rw [ep, lw]
                  simp only [plc, wordsS, h, if_true, Bool.false_eq_true, if_false]
                  rw [w64 (x := 2 * (o.sects[k].words.length : Int)) (by omega) (by omega), w64 (by omega) (by omega)]
                  simp only [cond_true]
                  omega
                · exact (hf2 hM).symm
                · dsimp only
                  rw [ep]
                  simp only [plc, h, if_true, Bool.false_eq_true, if_false]
                  exact placed_cat _ [⟨(i : Int), (k : Int), _⟩]
        · have hk : k = o.sects.length := by omega
          subst hk
          have e : (secL (l.take i) ++ (secO i o).take o.sects.length) = secL (l.take (i + 1)) := by rw [hnx, List.take_of_length_le (l := secO i o) (by rw [secO_len]; exact Nat.le_refl _)]
          rw [e] at hok ⊢
          exact ⟨⟨i + 1, hi, hok⟩, Nat.sub_succ_lt_self _ _ hi, rfl, rfl, rfl, rfl, rfl, rfl, congrArg (AV.int .i64) (w64 (by omega) (by omega)), rfl, .refl _, trivial⟩
    · have hi : i = l.length := by omega
      subst hi
      rw [List.take_length] at hok ⊢
      refine ⟨.of_eq ?_, trivial⟩
      rw [placeR, if_pos (okM_true.2 hok)]
end Go.Proofs.VI
