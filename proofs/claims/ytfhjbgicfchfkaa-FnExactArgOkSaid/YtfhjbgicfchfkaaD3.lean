/- Contracts. -/
import Derived.Test.YtfhjbgicfchfkaaD2
set_option linter.unusedVariables false
set_option linter.unusedSimpArgs false
set_option maxRecDepth 10000
namespace Go.Proofs.VI
open Go
theorem markText_ok (k : Int) (h0 : 0 ≤ k) (h1 : k ≤ 1152921504606846976) : Con 47 [.int .i64 k] (.str (mtext k)) [none] := by
  refine con Try.func47 ?_
  refine ⟨fun h => ⟨.of_eq (congrArg AV.str ?_), trivial⟩, fun h => ?_⟩ <;> simp only [decide_eq_true_eq, decide_eq_false_iff_not] at h
  · rw [mtext, if_pos h]; rfl
  refine ⟨{ p : Nat × List UInt8 // p.1 ≤ k.toNat ∧ dig p.1 ++ p.2 = dig k.toNat }, fun p => ⟨[(0, .int .i64 p.1.1), (3, .str (bytes p.1.2))], []⟩, fun p => p.1.1, ⟨(k.toNat, []), by omega, by simp⟩, ?_, ?_⟩
  · exact ⟨congrArg (AV.int .i64) (by dsimp only; omega), rfl, trivial⟩
  · rintro ⟨⟨n, l⟩, hn, hl⟩
    dsimp only at hn hl ⊢
    have hsz : l.length ≤ k.toNat := by
      have := dig_len k.toNat
      rw [← hl] at this
      simp at this; omega
    refine ⟨fun h => ?_, fun h => ?_⟩ <;> simp only [decide_eq_true_eq, decide_eq_false_iff_not] at h
    · have hd : IntKind.u8.wrap (IntKind.i64.wrap (48 + (n : Int).tmod 10)) = ((48 + n % 10 : Nat) : Int) := by
        rw [Int.tmod_eq_emod_of_nonneg (by omega), w64 (by omega) (by omega), IntWalk.u8_in _ (by omega)]
        omega
      have hr : rowsStr [[AV.int .u8 (IntKind.u8.wrap (IntKind.i64.wrap (48 + (n : Int).tmod 10)))]] = bytes [(48 + n % 10).toUInt8] := by
        rw [hd]; rfl
      refine ⟨by decide, rfl, ?_, ?_, by decide, ⟨(n / 10, (48 + n % 10).toUInt8 :: l), by omega, ?_⟩, ?_, ?_⟩
      · intro r hr
        rw [List.mem_singleton] at hr
        exact ⟨_, hr, by rw [hd]; omega, by rw [hd]; omega⟩
      · rw [hr, bytes_size, bytes_size]; simp; omega
      · rw [← hl, dig_pos n (by omega)]; simp
      · dsimp only; omega
      · refine ⟨congrArg (AV.int .i64) ?_, congrArg AV.str ?_, trivial⟩
        · rw [Int.tdiv_eq_ediv_of_nonneg (by omega), w64 (by omega) (by omega)]
          dsimp only; omega
        · rw [hr, bytes_append]; rfl
    · refine ⟨?_, .of_eq (congrArg AV.str ?_), trivial⟩
      · show (bytes [109]).size + _ ≤ _
        rw [bytes_size, bytes_size]; simp; omega
      · show bytes [109] ++ _ = _
        rw [bytes_append, mtext, if_neg (by omega), ← hl, show n = 0 by omega, dig]; rfl
def GToken.mark (t : GToken) (k : Int) : GToken := ⟨k, k + 1, mtext (k + 2)⟩
def GToken.w (_ : GToken) : Nat := 3
abbrev GTokenS.w (x : GTokenS) : Nat := cntS GToken.w x
abbrev GTokenS.mark (x : GTokenS) (k : Int) : GTokenS := markS GToken.mark GToken.w x k
theorem mark_TokenS (l : List GToken) (k : Int) (h0 : 0 ≤ k) (hk : k + cntS GToken.w l ≤ 1152921504606846976) (hl : l.length ≤ 1099511627776) :
    Con 15 [.ow 3 (l.map GToken.ro), .int .i64 k] (.int .i64 (k + cntS GToken.w l)) [some (.ow 3 ((markS GToken.mark GToken.w l k).map GToken.ro)), none] := by
  refine con Try.func15 ?_
  refine ⟨{ i : Nat // i ≤ l.length }, fun i => ⟨[(0, .own 0), (1, .int .i64 (k + cntS GToken.w (l.take i.1))), (5, .int .i64 i.1)], [(0, .rows 3 ((marking GToken.mark GToken.w l k i.1).map GToken.ro) [])]⟩, fun i => l.length - i.1, ⟨0, by omega⟩, ?_, ?_⟩
  · refine ⟨congrArg (AV.int .i64) ?_, rfl, rfl, .of_eq ?_, trivial⟩
    · simp [cntS]
    · rw [marking_zero]
  · rintro ⟨i, hi⟩
    have hlen := marking_len GToken.mark GToken.w l k i hi
    have hlen2 : ((marking GToken.mark GToken.w l k i).map GToken.ro).length = l.length := by rw [List.length_map, hlen]
    dsimp only
    refine ⟨fun h => ?_, fun h => ?_⟩ <;> simp only [hlen2, decide_eq_true_eq, decide_eq_false_iff_not] at h
    · have hi : i < l.length := by omega
      have hc := cntS_take_succ GToken.w l i hi
      have hc2 := cntS_take_le GToken.w l (i + 1)
      have hw : l[i].w = 3 := rfl
      have e1 : IntKind.wrap .i64 (k + (cntS GToken.w (l.take i) : Int) + 1) = k + cntS GToken.w (l.take i) + 1 := w64 (by omega) (by omega)
      have e2 : IntKind.wrap .i64 (k + (cntS GToken.w (l.take i) : Int) + 1 + 1) = k + cntS GToken.w (l.take i) + 2 := by rw [w64 (by omega) (by omega)]; omega
      have e3 : IntKind.wrap .i64 (k + (cntS GToken.w (l.take i) : Int) + 2 + 1) = k + cntS GToken.w (l.take (i + 1)) := by rw [w64 (by omega) (by omega)]; omega
      have e4 : IntKind.wrap .i64 ((i : Int) + 1) = ((i + 1 : Nat) : Int) := w64 (by omega) (by omega)
      have et := markText_ok (k + cntS GToken.w (l.take i) + 2) (by omega) (by omega)
      refine ⟨Int.natCast_nonneg _, by rw [hlen2]; exact h, _, marking_map _ _ _ _ _ _ hi, ?_⟩
      refine ⟨Int.natCast_nonneg _, by rw [List.length_set, hlen2]; exact h, _, set_get _ _ _ (by omega), ?_⟩
      refine ⟨[.ro], .str (mtext (k + cntS GToken.w (l.take i) + 2)), [none], by rw [e1, e2]; exact et, trivial, ?_⟩
      refine ⟨Int.natCast_nonneg _, by rw [List.length_set, List.length_set, hlen2]; exact h, _, set_get _ _ _ (by rw [List.length_set]; omega), ?_⟩
      refine ⟨⟨i + 1, by omega⟩, by dsimp only; omega, congrArg (AV.int .i64) ?_, congrArg (AV.int .i64) e4, rfl, .of_eq ?_, trivial⟩
      · rw [e1, e2, e3]
      · rw [← marking_set _ _ _ _ _ hi, List.map_set]
        show List.set (List.set (List.set _ i _) i _) i _ = _
        rw [List.set_set, List.set_set, e1]
        rfl
    · refine ⟨.i64 ?_, .of_eq (congrArg (AV.ow 3) ?_), trivial⟩
      · rw [List.take_of_length_le (by omega)]
      · rw [marking_all _ _ _ _ _ (by omega)]
theorem held_TokenS (l : List GToken) (k : Int) (h0 : 0 ≤ k) (hk : k + cntS GToken.w l ≤ 1152921504606846976) (hl : l.length ≤ 1099511627776) :
    Con 26 [.ro 3 ((markS GToken.mark GToken.w l k).map GToken.ro), .int .i64 k] (.int .i64 (k + cntS GToken.w l)) [none, none] := by
  refine con Try.func26 ?_
  refine ⟨{ i : Nat // i ≤ l.length }, fun i => ⟨[(0, .ro 3 ((markS GToken.mark GToken.w l k).map GToken.ro)), (1, .int .i64 (k + cntS GToken.w (l.take i.1))), (5, .int .i64 i.1)], []⟩, fun i => l.length - i.1, ⟨0, by omega⟩, ?_, ?_⟩
  · refine ⟨rfl, congrArg (AV.int .i64) ?_, rfl, trivial⟩
    simp [cntS]
  · rintro ⟨i, hi⟩
    have hlen := markS_len GToken.mark GToken.w l k
    have hlen2 : ((markS GToken.mark GToken.w l k).map GToken.ro).length = l.length := by rw [List.length_map, hlen]
    dsimp only
    refine ⟨fun h => ?_, fun h => ?_⟩ <;> simp only [hlen2, decide_eq_true_eq, decide_eq_false_iff_not] at h
    · have hi : i < l.length := by omega
      have hc := cntS_take_succ GToken.w l i hi
      have hc2 := cntS_take_le GToken.w l (i + 1)
      have hw : l[i].w = 3 := rfl
      have hg : ((markS GToken.mark GToken.w l k).map GToken.ro)[i]? = some (l[i].mark (k + cntS GToken.w (l.take i))).ro := by
        rw [map_get _ _ (by omega), markS_get _ _ _ _ _ hi]
      have e1 : IntKind.wrap .i64 (k + (cntS GToken.w (l.take i) : Int) + 1) = k + cntS GToken.w (l.take i) + 1 := w64 (by omega) (by omega)
      have e2 : IntKind.wrap .i64 (k + (cntS GToken.w (l.take i) : Int) + 1 + 1) = k + cntS GToken.w (l.take i) + 2 := by rw [w64 (by omega) (by omega)]; omega
      have e3 : IntKind.wrap .i64 (k + (cntS GToken.w (l.take i) : Int) + 2 + 1) = k + cntS GToken.w (l.take (i + 1)) := by rw [w64 (by omega) (by omega)]; omega
      have e4 : IntKind.wrap .i64 ((i : Int) + 1) = ((i + 1 : Nat) : Int) := w64 (by omega) (by omega)
      have et := markText_ok (k + cntS GToken.w (l.take i) + 2) (by omega) (by omega)
      refine ⟨Int.natCast_nonneg _, _, hg, ?_⟩
      refine ⟨fun h => absurd rfl (of_decide_eq_true h), fun h => ?_⟩
      refine ⟨Int.natCast_nonneg _, _, hg, ?_⟩
      refine ⟨fun h => absurd e1.symm (of_decide_eq_true h), fun h => ?_⟩
      refine ⟨Int.natCast_nonneg _, _, hg, ?_⟩
      refine ⟨[.ro], .str (mtext (k + cntS GToken.w (l.take i) + 2)), [none], by rw [e1, e2]; exact et, trivial, ?_⟩
      refine ⟨rfl, fun h => absurd rfl (of_decide_eq_true h), fun h => ?_⟩
      refine ⟨⟨i + 1, by omega⟩, by dsimp only; omega, rfl, congrArg (AV.int .i64) ?_, congrArg (AV.int .i64) e4, trivial⟩
      rw [e1, e2, e3]
    · refine ⟨.i64 ?_, trivial⟩
      rw [List.take_of_length_le (by omega)]

theorem mark_TokenSS (l : List (List GToken)) (k : Int) (h0 : 0 ≤ k) (hk : k + cntS (cntS GToken.w) l ≤ 1152921504606846976) (hl : l.length ≤ 1099511627776) (hs : ∀ x ∈ l, x.length ≤ 1099511627776) :
    Con 16 [.ow 1 (GTokenS.ows l), .int .i64 k] (.int .i64 (k + cntS (cntS GToken.w) l)) [some (.ow 1 (GTokenS.ows (markS (markS GToken.mark GToken.w) (cntS GToken.w) l k))), none] := by
  refine con Try.func16 ?_
  refine ⟨{ i : Nat // i ≤ l.length }, fun i => ⟨[(0, .own 0), (1, .int .i64 (k + cntS (cntS GToken.w) (l.take i.1))), (5, .int .i64 i.1)], [(0, .rows 1 (GTokenS.ows (marking (markS GToken.mark GToken.w) (cntS GToken.w) l k i.1)) [])]⟩, fun i => l.length - i.1, ⟨0, by omega⟩, ?_, ?_⟩
  · refine ⟨congrArg (AV.int .i64) ?_, rfl, rfl, .of_eq ?_, trivial⟩
    · simp [cntS]
    · rw [marking_zero]
  · rintro ⟨i, hi⟩
    have hlen := marking_len (markS GToken.mark GToken.w) (cntS GToken.w) l k i hi
    have hlen2 : (GTokenS.ows (marking (markS GToken.mark GToken.w) (cntS GToken.w) l k i)).length = l.length := by rw [List.length_map, hlen]
    dsimp only
    refine ⟨fun h => ?_, fun h => ?_⟩ <;> simp only [hlen2, decide_eq_true_eq, decide_eq_false_iff_not] at h
    · have hi : i < l.length := by omega
      have hc := cntS_take_succ (cntS GToken.w) l i hi
      have hc2 := cntS_take_le (cntS GToken.w) l (i + 1)
      have e4 : IntKind.wrap .i64 ((i : Int) + 1) = ((i + 1 : Nat) : Int) := w64 (by omega) (by omega)
      refine ⟨Int.natCast_nonneg _, by rw [hlen2]; exact h, _, marking_map _ _ _ _ _ _ hi, ?_⟩
      refine ⟨[.muts 3, .ro], .int .i64 (k + cntS (cntS GToken.w) (l.take i) + cntS GToken.w l[i]), [some (.ow 3 ((markS GToken.mark GToken.w l[i] (k + cntS (cntS GToken.w) (l.take i))).map GToken.ro)), none], ?_, ?_⟩
      · exact mark_TokenS l[i] _ (by omega) (by omega) (hs _ (List.getElem_mem _))
      refine ⟨trivial, ⟨i + 1, by omega⟩, by dsimp only; omega, congrArg (AV.int .i64) ?_, congrArg (AV.int .i64) e4, rfl, .of_eq ?_, trivial⟩
      · rw [hc]; push_cast; omega
      · rw [← marking_set _ _ _ _ _ hi, GTokenS.ows, GTokenS.ows, List.map_set]
        exact modify_get _ _ _ _ (marking_map _ _ _ _ _ _ hi)
    · refine ⟨.i64 ?_, .of_eq (congrArg (AV.ow 1) ?_), trivial⟩
      · rw [List.take_of_length_le (by omega)]
      · rw [marking_all _ _ _ _ _ (by omega)]
theorem held_TokenSS (l : List (List GToken)) (k : Int) (h0 : 0 ≤ k) (hk : k + cntS (cntS GToken.w) l ≤ 1152921504606846976) (hl : l.length ≤ 1099511627776) (hs : ∀ x ∈ l, x.length ≤ 1099511627776) :
    Con 17 [.ro 1 (GTokenS.ros (markS (markS GToken.mark GToken.w) (cntS GToken.w) l k)), .int .i64 k] (.int .i64 (k + cntS (cntS GToken.w) l)) [none, none] := by
  refine con Try.func17 ?_
  refine ⟨{ i : Nat // i ≤ l.length }, fun i => ⟨[(0, .ro 1 (GTokenS.ros (markS (markS GToken.mark GToken.w) (cntS GToken.w) l k))), (1, .int .i64 (k + cntS (cntS GToken.w) (l.take i.1))), (5, .int .i64 i.1)], []⟩, fun i => l.length - i.1, ⟨0, by omega⟩, ?_, ?_⟩
  · refine ⟨rfl, congrArg (AV.int .i64) ?_, rfl, trivial⟩
    simp [cntS]
  · rintro ⟨i, hi⟩
    have hlen := markS_len (markS GToken.mark GToken.w) (cntS GToken.w) l k
    have hlen2 : (GTokenS.ros (markS (markS GToken.mark GToken.w) (cntS GToken.w) l k)).length = l.length := by rw [List.length_map, hlen]
    dsimp only
    refine ⟨fun h => ?_, fun h => ?_⟩ <;> simp only [hlen2, decide_eq_true_eq, decide_eq_false_iff_not] at h
    · have hi : i < l.length := by omega
      have hc := cntS_take_succ (cntS GToken.w) l i hi
      have hc2 := cntS_take_le (cntS GToken.w) l (i + 1)
      have hg : (GTokenS.ros (markS (markS GToken.mark GToken.w) (cntS GToken.w) l k))[i]? = some [AV.ro 3 ((markS GToken.mark GToken.w l[i] (k + cntS (cntS GToken.w) (l.take i))).map GToken.ro)] := by
        rw [map_get _ _ (by omega), markS_get _ _ _ _ _ hi]; rfl
      have e4 : IntKind.wrap .i64 ((i : Int) + 1) = ((i + 1 : Nat) : Int) := w64 (by omega) (by omega)
      refine ⟨Int.natCast_nonneg _, _, hg, ?_⟩
      refine ⟨[.ro, .ro], .int .i64 (k + cntS (cntS GToken.w) (l.take i) + cntS GToken.w l[i]), [none, none], held_TokenS l[i] _ (by omega) (by omega) (hs _ (List.getElem_mem _)), trivial, ?_⟩
      refine ⟨fun h => ?_, fun h => ?_⟩ <;> simp only [decide_eq_true_eq, decide_eq_false_iff_not] at h
      · omega
      refine ⟨⟨i + 1, by omega⟩, by dsimp only; omega, rfl, congrArg (AV.int .i64) ?_, congrArg (AV.int .i64) e4, trivial⟩
      rw [hc]; push_cast; omega
    · refine ⟨.i64 ?_, trivial⟩
      rw [List.take_of_length_le (by omega)]
def GString.mark (_ : GString) (k : Int) : GString := mtext k
def GString.w (_ : GString) : Nat := 1
theorem mark_StringS (l : List GString) (k : Int) (h0 : 0 ≤ k) (hk : k + cntS GString.w l ≤ 1152921504606846976) (hl : l.length ≤ 1099511627776) :
    Con 25 [.ow 1 (GString.ows l), .int .i64 k] (.int .i64 (k + cntS GString.w l)) [some (.ow 1 (GString.ows (markS GString.mark GString.w l k))), none] := by
  refine con Try.func25 ?_
  refine ⟨{ i : Nat // i ≤ l.length }, fun i => ⟨[(0, .own 0), (1, .int .i64 (k + cntS GString.w (l.take i.1))), (5, .int .i64 i.1)], [(0, .rows 1 ((marking GString.mark GString.w l k i.1).map GString.ro) [])]⟩, fun i => l.length - i.1, ⟨0, by omega⟩, ?_, ?_⟩
  · refine ⟨congrArg (AV.int .i64) ?_, rfl, rfl, .of_eq ?_, trivial⟩
    · simp [cntS]
    · rw [marking_zero]
  · rintro ⟨i, hi⟩
    have hlen := marking_len GString.mark GString.w l k i hi
    have hlen2 : ((marking GString.mark GString.w l k i).map GString.ro).length = l.length := by rw [List.length_map, hlen]
    dsimp only
    refine ⟨fun h => ?_, fun h => ?_⟩ <;> simp only [hlen2, decide_eq_true_eq, decide_eq_false_iff_not] at h
    · have hi : i < l.length := by omega
      have hc := cntS_take_succ GString.w l i hi
      have hc2 := cntS_take_le GString.w l (i + 1)
      have hw : GString.w l[i] = 1 := rfl
      have e1 : IntKind.wrap .i64 (k + (cntS GString.w (l.take i) : Int) + 1) = k + cntS GString.w (l.take (i + 1)) := by rw [w64 (by omega) (by omega)]; omega
      have e4 : IntKind.wrap .i64 ((i : Int) + 1) = ((i + 1 : Nat) : Int) := w64 (by omega) (by omega)
      have et := markText_ok (k + cntS GString.w (l.take i)) (by omega) (by omega)
      refine ⟨[.ro], .str (mtext (k + cntS GString.w (l.take i))), [none], et, trivial, ?_⟩
      refine ⟨Int.natCast_nonneg _, by rw [hlen2]; exact h, _, marking_map _ _ _ _ _ _ hi, ?_⟩
      refine ⟨⟨i + 1, by omega⟩, by dsimp only; omega, congrArg (AV.int .i64) e1, congrArg (AV.int .i64) e4, rfl, .of_eq ?_, trivial⟩
      rw [← marking_set _ _ _ _ _ hi, List.map_set]
      rfl
    · refine ⟨.i64 ?_, .of_eq (congrArg (AV.ow 1) ?_), trivial⟩
      · rw [List.take_of_length_le (by omega)]
      · rw [marking_all _ _ _ _ _ (by omega)]
end Go.Proofs.VI
