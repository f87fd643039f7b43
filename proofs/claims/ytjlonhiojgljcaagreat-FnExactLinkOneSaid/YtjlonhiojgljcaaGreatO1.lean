/- Contracts of functions, and what they rest on: l20order. -/
import Derived.Test.YtjlonhiojgljcaaGreatN8
set_option linter.unusedVariables false
set_option linter.unusedSimpArgs false
set_option maxRecDepth 10000
set_option maxHeartbeats 4000000
namespace Go.Proofs.VI
open Go
theorem placed_plain (a : List GPlaced) : plainRows (GPlaced.ows a) := by
  induction a with
  | nil => trivial
  | cons x a ih => exact ⟨⟨trivial, trivial, trivial, trivial⟩, ih⟩
theorem spec_l20Order (l : List GPlaced) (hl : l.length ≤ 1099511627776) (hk : ∀ p ∈ l, 0 ≤ p.sect ∧ p.sect < 8) : Con 79 [.ro 3 (GPlaced.ros l)] (.ow 3 (GPlaced.ows (ordK keyP l))) [none] := by
  have lm : (GPlaced.ros l).length = l.length := by simp
  have hkey : ∀ p ∈ l, ∀ q ∈ l, (q.mod < p.mod ∨ p.mod = q.mod ∧ q.sect < p.sect) ↔ keyP q < keyP p := fun p hp q hq => by
    have := hk p hp
    have := hk q hq
    simp only [keyP]
    omega
  refine con Tryz.func79 ?_
  refine ⟨trivial, (by show (0 + (GPlaced.ros l).length) * 24 ≤ _; rw [lm]; omega), placed_plain l, ?_⟩
  refine ⟨{ i : Nat // i ≤ l.length ∨ i = 1 }, fun i => ⟨[(3, .own 0), (4, .int .i64 i.1)], [(0, .rows 3 (GPlaced.ows (ordK keyP (l.take i.1) ++ l.drop i.1)) [])]⟩, fun i => l.length - i.1, ⟨1, .inr rfl⟩, ?_, ?_⟩
  · refine ⟨rfl, rfl, .of_eq ?_, trivial⟩
    cases l with
    | nil => rfl
    | cons x l => rfl
  · rintro ⟨i, hi⟩
    dsimp only
    have hlen : (GPlaced.ows (ordK keyP (l.take i) ++ l.drop i)).length = l.length := by rw [placed_len, List.length_append, ordK_len]; simp; omega
    refine ⟨fun h => ?_, fun h => ?_⟩ <;> simp only [hlen, decide_eq_true_eq, decide_eq_false_iff_not] at h
    · have hi : i < l.length := by omega
      have hS : (ordK keyP (l.take i)).length = i := by rw [ordK_len]; simp; omega
      have hSm : ∀ y ∈ ordK keyP (l.take i), y ∈ l := fun y hy => List.mem_of_mem_take ((ordK_perm keyP _).mem_iff.1 hy)
      have hSs := ordK_sorted keyP (l.take i)
      have hnx : ordK keyP (l.take (i + 1)) = insK keyP (ordK keyP (l.take i)) l[i] := by rw [List.take_add_one, List.getElem?_eq_getElem hi]; exact ordK_snoc keyP _ _
      have hd : l.drop i = l[i] :: l.drop (i + 1) := List.drop_eq_getElem_cons hi
      have hxl := List.getElem_mem hi
      have hrow0 : (GPlaced.ows (ordK keyP (l.take i) ++ l.drop i))[((i : Nat) : Int).toNat]? = some (GPlaced.ro l[i]) := by
        rw [Int.toNat_natCast]
        show ((ordK keyP (l.take i) ++ l.drop i).map GPlaced.ro)[i]? = _
        rw [List.getElem?_map, List.getElem?_append_right (by omega), hS, Nat.sub_self, hd]; rfl
      have hLD : (l.drop (i + 1)).length = l.length - (i + 1) := by simp
      refine ⟨by omega, by rw [hlen]; omega, _, hrow0, ?_⟩
      obtain ⟨x, hx⟩ : ∃ x, x = l[i] := ⟨_, rfl⟩
      rw [← hx] at hnx hd hxl
      simp only [← hx]
      obtain ⟨S, hSe⟩ : ∃ S, S = ordK keyP (l.take i) := ⟨_, rfl⟩
      rw [← hSe] at hS hSm hSs hnx
      refine ⟨{ p : Nat × GPlaced // p.1 ≤ i ∧ ∀ y ∈ S.drop p.1, keyP x < keyP y }, fun p => ⟨[(3, .own 0), (4, .int .i64 i), (5, .ptr 1 0 0), (6, .int .i64 p.1.1)], [(0, .rows 3 (GPlaced.ows (S.take p.1.1 ++ p.1.2 :: S.drop p.1.1 ++ l.drop (i + 1))) []), (1, .box (GPlaced.ro x) [])]⟩, fun p => p.1.1, ⟨(i, x), Nat.le_refl _, fun y hy => by rw [← hS, List.drop_length] at hy; cases hy⟩, ?_, ?_⟩
      · refine ⟨rfl, rfl, rfl, rfl, rfl, .of_eq ?_, .refl _, trivial⟩
        dsimp only
        rw [← hSe, hd, ← hS, List.take_length, List.drop_length, List.append_assoc]; rfl
      · rintro ⟨⟨k, y⟩, hk, hdr⟩
        dsimp only at hk hdr ⊢
        have hlen2 : (GPlaced.ows (S.take k ++ y :: S.drop k ++ l.drop (i + 1))).length = l.length := by rw [placed_len]; simp; omega
        have htk : (S.take k).length = k := by simp; omega
        have hrowk : (GPlaced.ows (S.take k ++ y :: S.drop k ++ l.drop (i + 1)))[((k : Nat) : Int).toNat]? = some (GPlaced.ro y) := by
          rw [Int.toNat_natCast]
          show ((S.take k ++ y :: S.drop k ++ l.drop (i + 1)).map GPlaced.ro)[k]? = _
          rw [List.getElem?_map, List.append_assoc, List.getElem?_append_right (by omega), htk, Nat.sub_self]; rfl
        have fin : (∀ z ∈ S.take k, keyP z ≤ keyP x) → (GPlaced.ows (S.take k ++ y :: S.drop k ++ l.drop (i + 1))).set k (GPlaced.ro x) = GPlaced.ows (ordK keyP (l.take (i + 1)) ++ l.drop (i + 1)) := fun h1 => by
          rw [hnx, insK_at keyP h1 hdr]
          show ((S.take k ++ y :: S.drop k ++ l.drop (i + 1)).map GPlaced.ro).set k (GPlaced.ro x) = _
          rw [← List.map_set, List.append_assoc, List.set_append_right _ _ (by omega), htk, Nat.sub_self, List.append_assoc]; rfl
        refine ⟨fun h => ?_, fun h => ?_⟩ <;> simp only [decide_eq_true_eq, decide_eq_false_iff_not] at h
        · obtain ⟨q, rfl⟩ : ∃ q, k = q + 1 := ⟨k - 1, by omega⟩
          have e1 : IntKind.wrap .i64 (((q + 1 : Nat) : Int) - 1) = ((q : Nat) : Int) := by rw [w64 (by omega) (by omega)]; omega
          have hq : q < S.length := by omega
          have hrowq : (GPlaced.ows (S.take (q + 1) ++ y :: S.drop (q + 1) ++ l.drop (i + 1)))[(IntKind.wrap .i64 (((q + 1 : Nat) : Int) - 1)).toNat]? = some (GPlaced.ro S[q]) := by
            rw [e1, Int.toNat_natCast]
            show ((S.take (q + 1) ++ y :: S.drop (q + 1) ++ l.drop (i + 1)).map GPlaced.ro)[q]? = _
            rw [List.getElem?_map, List.append_assoc, List.getElem?_append_left (by omega), List.getElem?_take, if_pos (by omega), List.getElem?_eq_getElem hq]; rfl
          have hkq := hkey S[q] (hSm _ (List.getElem_mem hq)) x hxl
          have hle : ¬ keyP x < keyP S[q] → ∀ z ∈ S.take (q + 1), keyP z ≤ keyP x := fun hn z hz => by
            obtain ⟨j, hj, rfl⟩ := List.mem_iff_getElem.1 hz
            rw [List.length_take] at hj
            rw [List.getElem_take]
            by_cases ej : j = q
            · subst ej; omega
            · have := List.pairwise_iff_getElem.1 hSs j q (by omega) hq (by omega); omega
          have hgt : keyP x < keyP S[q] → ∀ z ∈ S.drop q, keyP x < keyP z := fun hn z hz => by
            rw [List.drop_eq_getElem_cons hq] at hz
            rcases List.mem_cons.1 hz with e | hz
            · rw [e]; exact hn
            · exact hdr z hz
          have hset : (GPlaced.ows (S.take (q + 1) ++ y :: S.drop (q + 1) ++ l.drop (i + 1))).set ((q + 1 : Nat) : Int).toNat (GPlaced.ro S[q]) = GPlaced.ows (S.take q ++ S[q] :: S.drop q ++ l.drop (i + 1)) := by
            show ((S.take (q + 1) ++ y :: S.drop (q + 1) ++ l.drop (i + 1)).map GPlaced.ro).set ((q + 1 : Nat) : Int).toNat (GPlaced.ro S[q]) = _
            rw [Int.toNat_natCast, ← List.map_set, List.append_assoc, List.set_append_right _ _ (by omega), htk, Nat.sub_self, List.cons_append, List.set_cons_zero, List.take_add_one, List.getElem?_eq_getElem hq]
            conv => rhs; rw [List.drop_eq_getElem_cons hq]
            rw [List.append_assoc, List.append_assoc]; rfl
          refine ⟨by rw [e1]; omega, by rw [e1, hlen2]; omega, _, hrowq, fun h1 => ?_, fun h1 => ?_⟩
          · refine ⟨by rw [e1]; omega, by rw [e1, hlen2]; omega, _, hrowq, fun h2 => ?_, fun h2 => ?_⟩
            · refine ⟨by rw [e1]; omega, by rw [e1, hlen2]; omega, _, hrowq, by kernel_rfl, fun h3 => ?_, fun h3 => ?_⟩
              · have hlt : keyP x < keyP S[q] := hkq.1 (.inr ⟨of_decide_eq_true h2, of_decide_eq_true h3⟩)
                refine ⟨by rw [e1]; omega, by rw [e1, hlen2]; omega, _, hrowq, by omega, by rw [hlen2]; omega, _, hrowk, ?_⟩
                exact ⟨⟨(q, S[q]), by dsimp only; omega, hgt hlt⟩, Nat.lt_succ_self _, rfl, rfl, rfl, congrArg (AV.int .i64) e1, rfl, .of_eq hset, .refl _, trivial⟩
              · have hnl : ¬ keyP x < keyP S[q] := fun hh => by
                  rcases hkq.2 hh with a | a
                  · exact of_decide_eq_false h1 a
                  · exact of_decide_eq_false h3 a.2
                refine ⟨by omega, by rw [hlen2]; omega, _, hrowk, ?_⟩
                exact ⟨⟨i + 1, .inl hi⟩, Nat.sub_succ_lt_self _ _ hi, congrArg (AV.int .i64) (w64 (by omega) (by omega)), rfl, .of_eq (by rw [Int.toNat_natCast]; exact fin (hle hnl)), trivial⟩
            · have hnl : ¬ keyP x < keyP S[q] := fun hh => by
                rcases hkq.2 hh with a | a
                · exact of_decide_eq_false h1 a
                · exact of_decide_eq_false h2 a.1
              refine ⟨by kernel_rfl, by omega, by rw [hlen2]; omega, _, hrowk, ?_⟩
              exact ⟨⟨i + 1, .inl hi⟩, Nat.sub_succ_lt_self _ _ hi, congrArg (AV.int .i64) (w64 (by omega) (by omega)), rfl, .of_eq (by rw [Int.toNat_natCast]; exact fin (hle hnl)), trivial⟩
          · have hlt : keyP x < keyP S[q] := hkq.1 (.inl (of_decide_eq_true h1))
            refine ⟨by kernel_rfl, by rw [e1]; omega, by rw [e1, hlen2]; omega, _, hrowq, by omega, by rw [hlen2]; omega, _, hrowk, ?_⟩
            exact ⟨⟨(q, S[q]), by dsimp only; omega, hgt hlt⟩, Nat.lt_succ_self _, rfl, rfl, rfl, congrArg (AV.int .i64) e1, rfl, .of_eq hset, .refl _, trivial⟩
        · have k0 : k = 0 := by omega
          subst k0
          refine ⟨by kernel_rfl, by omega, by rw [hlen2]; omega, _, hrowk, ?_⟩
          exact ⟨⟨i + 1, .inl hi⟩, Nat.sub_succ_lt_self _ _ hi, congrArg (AV.int .i64) (w64 (by omega) (by omega)), rfl, .of_eq (by rw [Int.toNat_natCast]; exact fin (fun z hz => by cases hz)), trivial⟩
    · have hge : l.length ≤ i := by omega
      rw [List.take_of_length_le hge, List.drop_of_length_le hge, List.append_nil]
      exact ⟨.refl _, trivial⟩
end Go.Proofs.VI
