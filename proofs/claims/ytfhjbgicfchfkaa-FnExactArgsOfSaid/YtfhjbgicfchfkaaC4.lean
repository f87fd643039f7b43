/- Tokens: marks held. -/
import Derived.Test.YtfhjbgicfchfkaaC3
set_option linter.unusedVariables false
set_option linter.unusedSimpArgs false
set_option maxRecDepth 10000
namespace Go.Proofs.VI
open Go
theorem heldTokenS_ok (l : List Tok) (k : Int) (h0 : 0 ≤ k) (hk : k + cntS Tok.w l ≤ 1152921504606846976) (hl : l.length ≤ 1073741824) :
    Con 26 [.ro 3 ((markS Tok.mark Tok.w l k).map Tok.ro), .int .i64 k] (.int .i64 (k + cntS Tok.w l)) [none, none] := by
  refine con Try.func26 ?_
  refine ⟨{ i : Nat // i ≤ l.length }, fun i => ⟨[(0, .ro 3 ((markS Tok.mark Tok.w l k).map Tok.ro)), (1, .int .i64 (k + cntS Tok.w (l.take i.1))), (5, .int .i64 i.1)], []⟩, fun i => l.length - i.1, ⟨0, by omega⟩, ?_, ?_⟩
  · refine ⟨rfl, congrArg (AV.int .i64) ?_, rfl, trivial⟩
    simp [cntS]
  · rintro ⟨i, hi⟩
    have hlen := markS_len Tok.mark Tok.w l k
    have hlen2 : ((markS Tok.mark Tok.w l k).map Tok.ro).length = l.length := by rw [List.length_map, hlen]
    dsimp only
    refine ⟨fun h => ?_, fun h => ?_⟩ <;> simp only [hlen2, decide_eq_true_eq, decide_eq_false_iff_not] at h
    · have hi : i < l.length := by omega
      have hc := cntS_take_succ Tok.w l i hi
      have hc2 := cntS_take_le Tok.w l (i + 1)
      have hw : l[i].w = 3 := rfl
      have hg : ((markS Tok.mark Tok.w l k).map Tok.ro)[i]? = some (l[i].mark (k + cntS Tok.w (l.take i))).ro := by
        rw [map_get _ _ (by omega), markS_get _ _ _ _ _ hi]
      have e1 : IntKind.wrap .i64 (k + (cntS Tok.w (l.take i) : Int) + 1) = k + cntS Tok.w (l.take i) + 1 := w64 (by omega) (by omega)
      have e2 : IntKind.wrap .i64 (k + (cntS Tok.w (l.take i) : Int) + 1 + 1) = k + cntS Tok.w (l.take i) + 2 := by rw [w64 (by omega) (by omega)]; omega
      have e3 : IntKind.wrap .i64 (k + (cntS Tok.w (l.take i) : Int) + 2 + 1) = k + cntS Tok.w (l.take (i + 1)) := by rw [w64 (by omega) (by omega)]; omega
      have e4 : IntKind.wrap .i64 ((i : Int) + 1) = ((i + 1 : Nat) : Int) := w64 (by omega) (by omega)
      have et := markText_ok (k + cntS Tok.w (l.take i) + 2) (by omega) (by omega)
      refine ⟨Int.natCast_nonneg _, _, hg, ?_⟩
      refine ⟨fun h => absurd rfl (of_decide_eq_true h), fun h => ?_⟩
      refine ⟨Int.natCast_nonneg _, _, hg, ?_⟩
      refine ⟨fun h => absurd e1.symm (of_decide_eq_true h), fun h => ?_⟩
      refine ⟨Int.natCast_nonneg _, _, hg, ?_⟩
      refine ⟨[.ro], .str (mtext (k + cntS Tok.w (l.take i) + 2)), [none], by rw [e1, e2]; exact et, trivial, ?_⟩
      refine ⟨rfl, fun h => absurd rfl (of_decide_eq_true h), fun h => ?_⟩
      refine ⟨⟨i + 1, by omega⟩, by dsimp only; omega, rfl, congrArg (AV.int .i64) ?_, congrArg (AV.int .i64) e4, trivial⟩
      rw [e1, e2, e3]
    · refine ⟨.i64 ?_, trivial⟩
      rw [List.take_of_length_le (by omega)]

theorem modify_get {α : Type} (l : List α) (i : Nat) (f : α → α) (x : α) (h : l[i]? = some x) : l.modify i f = l.set i (f x) := by
  induction l generalizing i with
  | nil => simp at h
  | cons y l ih =>
    cases i with
    | zero => simp at h; subst h; rfl
    | succ i => simp only [List.modify_succ_cons, List.set_cons_succ]; rw [ih i (by simpa using h)]
abbrev roSS (l : List (List Tok)) : List (List AV) := l.map fun x => [AV.ro 3 (x.map Tok.ro)]
abbrev owSS (l : List (List Tok)) : List (List AV) := l.map fun x => [AV.ow 3 (x.map Tok.ro)]
theorem markTokenSS_ok (l : List (List Tok)) (k : Int) (h0 : 0 ≤ k) (hk : k + cntS (cntS Tok.w) l ≤ 1152921504606846976) (hl : l.length ≤ 1073741824) (hs : ∀ x ∈ l, x.length ≤ 1073741824) :
    Con 16 [.ow 1 (owSS l), .int .i64 k] (.int .i64 (k + cntS (cntS Tok.w) l)) [some (.ow 1 (owSS (markS (markS Tok.mark Tok.w) (cntS Tok.w) l k))), none] := by
  refine con Try.func16 ?_
  refine ⟨{ i : Nat // i ≤ l.length }, fun i => ⟨[(0, .own 0), (1, .int .i64 (k + cntS (cntS Tok.w) (l.take i.1))), (5, .int .i64 i.1)], [(0, .rows 1 (owSS (marking (markS Tok.mark Tok.w) (cntS Tok.w) l k i.1)) [])]⟩, fun i => l.length - i.1, ⟨0, by omega⟩, ?_, ?_⟩
  · refine ⟨congrArg (AV.int .i64) ?_, rfl, rfl, .of_eq ?_, trivial⟩
    · simp [cntS]
    · rw [marking_zero]
  · rintro ⟨i, hi⟩
    have hlen := marking_len (markS Tok.mark Tok.w) (cntS Tok.w) l k i hi
    have hlen2 : (owSS (marking (markS Tok.mark Tok.w) (cntS Tok.w) l k i)).length = l.length := by rw [List.length_map, hlen]
    dsimp only
    refine ⟨fun h => ?_, fun h => ?_⟩ <;> simp only [hlen2, decide_eq_true_eq, decide_eq_false_iff_not] at h
    · have hi : i < l.length := by omega
      have hc := cntS_take_succ (cntS Tok.w) l i hi
      have hc2 := cntS_take_le (cntS Tok.w) l (i + 1)
      have e4 : IntKind.wrap .i64 ((i : Int) + 1) = ((i + 1 : Nat) : Int) := w64 (by omega) (by omega)
      refine ⟨Int.natCast_nonneg _, by rw [hlen2]; exact h, _, marking_map _ _ _ _ _ _ hi, ?_⟩
      refine ⟨[.muts 3, .ro], .int .i64 (k + cntS (cntS Tok.w) (l.take i) + cntS Tok.w l[i]), [some (.ow 3 ((markS Tok.mark Tok.w l[i] (k + cntS (cntS Tok.w) (l.take i))).map Tok.ro)), none], ?_, ?_⟩
      · exact markTokenS_ok l[i] _ (by omega) (by omega) (hs _ (List.getElem_mem _))
      refine ⟨trivial, ⟨i + 1, by omega⟩, by dsimp only; omega, congrArg (AV.int .i64) ?_, congrArg (AV.int .i64) e4, rfl, .of_eq ?_, trivial⟩
      · rw [hc]; push_cast; omega
      · rw [← marking_set _ _ _ _ _ hi, owSS, owSS, List.map_set]
        exact modify_get _ _ _ _ (marking_map _ _ _ _ _ _ hi)
    · refine ⟨.i64 ?_, .of_eq (congrArg (AV.ow 1) ?_), trivial⟩
      · rw [List.take_of_length_le (by omega)]
      · rw [marking_all _ _ _ _ _ (by omega)]
theorem heldTokenSS_ok (l : List (List Tok)) (k : Int) (h0 : 0 ≤ k) (hk : k + cntS (cntS Tok.w) l ≤ 1152921504606846976) (hl : l.length ≤ 1073741824) (hs : ∀ x ∈ l, x.length ≤ 1073741824) :
    Con 17 [.ro 1 (roSS (markS (markS Tok.mark Tok.w) (cntS Tok.w) l k)), .int .i64 k] (.int .i64 (k + cntS (cntS Tok.w) l)) [none, none] := by
  refine con Try.func17 ?_
  refine ⟨{ i : Nat // i ≤ l.length }, fun i => ⟨[(0, .ro 1 (roSS (markS (markS Tok.mark Tok.w) (cntS Tok.w) l k))), (1, .int .i64 (k + cntS (cntS Tok.w) (l.take i.1))), (5, .int .i64 i.1)], []⟩, fun i => l.length - i.1, ⟨0, by omega⟩, ?_, ?_⟩
  · refine ⟨rfl, congrArg (AV.int .i64) ?_, rfl, trivial⟩
    simp [cntS]
  · rintro ⟨i, hi⟩
    have hlen := markS_len (markS Tok.mark Tok.w) (cntS Tok.w) l k
    have hlen2 : (roSS (markS (markS Tok.mark Tok.w) (cntS Tok.w) l k)).length = l.length := by rw [List.length_map, hlen]
    dsimp only
    refine ⟨fun h => ?_, fun h => ?_⟩ <;> simp only [hlen2, decide_eq_true_eq, decide_eq_false_iff_not] at h
    · have hi : i < l.length := by omega
      have hc := cntS_take_succ (cntS Tok.w) l i hi
      have hc2 := cntS_take_le (cntS Tok.w) l (i + 1)
      have hg : (roSS (markS (markS Tok.mark Tok.w) (cntS Tok.w) l k))[i]? = some [AV.ro 3 ((markS Tok.mark Tok.w l[i] (k + cntS (cntS Tok.w) (l.take i))).map Tok.ro)] := by
        rw [map_get _ _ (by omega), markS_get _ _ _ _ _ hi]
      have e4 : IntKind.wrap .i64 ((i : Int) + 1) = ((i + 1 : Nat) : Int) := w64 (by omega) (by omega)
      refine ⟨Int.natCast_nonneg _, _, hg, ?_⟩
      refine ⟨[.ro, .ro], .int .i64 (k + cntS (cntS Tok.w) (l.take i) + cntS Tok.w l[i]), [none, none], heldTokenS_ok l[i] _ (by omega) (by omega) (hs _ (List.getElem_mem _)), trivial, ?_⟩
      refine ⟨fun h => ?_, fun h => ?_⟩ <;> simp only [decide_eq_true_eq, decide_eq_false_iff_not] at h
      · omega
      refine ⟨⟨i + 1, by omega⟩, by dsimp only; omega, rfl, congrArg (AV.int .i64) ?_, congrArg (AV.int .i64) e4, trivial⟩
      rw [hc]; push_cast; omega
    · refine ⟨.i64 ?_, trivial⟩
      rw [List.take_of_length_le (by omega)]
end Go.Proofs.VI
