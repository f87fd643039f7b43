/- The law of ArgsOf. -/
import Derived.Test.YtfhjbgicfchfkaaC5
set_option linter.unusedVariables false
set_option linter.unusedSimpArgs false
set_option maxRecDepth 10000
namespace Go.Proofs.VI
open Go
theorem toRo_toks (l : List Tok) : toRoRows (l.map Tok.ro) = l.map Tok.ro := by
  induction l with
  | nil => rfl
  | cons t l ih => simp only [List.map_cons, toRoRows, ih]; rfl
theorem toRo_SS (l : List (List Tok)) : toRoRows (owSS l) = roSS l := by
  induction l with
  | nil => rfl
  | cons t l ih => simp only [owSS, roSS, List.map_cons, toRoRows, toRoL, toRo, toRo_toks] at ih ⊢; rw [ih]
theorem noRo_toks (l : List Tok) : noRoRows (l.map Tok.ro) := by
  induction l with
  | nil => trivial
  | cons t l ih => exact ⟨⟨trivial, trivial, trivial, trivial⟩, ih⟩
theorem noRo_SS (l : List (List Tok)) : noRoRows (owSS l) := by
  induction l with
  | nil => trivial
  | cons t l ih => exact ⟨⟨noRo_toks t, trivial⟩, ih⟩
theorem cnt_tok (l : List Tok) : cntS Tok.w l = 3 * l.length := by
  induction l with
  | nil => rfl
  | cons t l ih => simp only [cntS, ih, List.length_cons, Tok.w]; omega
theorem cnt_SS (l : List (List Tok)) (n : Nat) (h : cntS List.length l ≤ n) : cntS (cntS Tok.w) l ≤ 3 * n := by
  induction l generalizing n with
  | nil => simp [cntS]
  | cons t l ih =>
    simp only [cntS] at h ⊢
    have := ih (cntS List.length l) (Nat.le_refl _)
    rw [cnt_tok]; omega
theorem in_SS (l : List (List Tok)) : ∀ x ∈ l, x.length ≤ cntS List.length l := by
  induction l with
  | nil => simp
  | cons t l ih =>
    intro x hx
    simp only [cntS]
    rcases List.mem_cons.1 hx with rfl | hx
    · omega
    · have := ih x hx; omega
theorem argsOf_tot (l : List Tok) : cntS List.length (argsOf l) ≤ l.length := by
  rw [argsOf]
  split
  · simp [cntS]
  suffices h : ∀ (l : List Tok) p, cntS List.length (l.foldl argsStep p).1 + (l.foldl argsStep p).2.length ≤ l.length + cntS List.length p.1 + p.2.length by
    have := h l ([], [])
    rw [cntS_append]
    simp [cntS, argsRun] at this ⊢
    omega
  intro l
  induction l with
  | nil => intro p; simp
  | cons t l ih =>
    intro p
    have := ih (argsStep p t)
    simp only [List.foldl_cons, List.length_cons] at this ⊢
    have h2 : cntS List.length (argsStep p t).1 + (argsStep p t).2.length ≤ cntS List.length p.1 + p.2.length + 1 := by
      unfold argsStep; split <;> simp [cntS_append, cntS]; omega
    omega
theorem argsOf_len (l : List Tok) : (argsOf l).length ≤ l.length + 1 := by
  have := argsRun_len l
  rw [argsOf]; split <;> simp; omega
theorem argsOf_cnt (l : List Tok) : cntS (cntS Tok.w) (argsOf l) ≤ 3 * l.length := cnt_SS _ _ (argsOf_tot l)
theorem argsOf_in (l : List Tok) : ∀ x ∈ argsOf l, x.length ≤ l.length := fun x hx => Nat.le_trans (in_SS _ x hx) (argsOf_tot l)
theorem lawArgsOf_ok (l : List Tok) (hl : l.length ≤ 9223372036854775807) (hs : ∀ t ∈ l, t.s.size ≤ 9223372036854775807) : Con 3 [.ro 3 (l.map Tok.ro)] (.bool true) [none] := by
  refine con Try.func3 ?_
  refine ⟨[.ro, .ro], .int .i64 (szV 1048576 (bulkS Tok.bulk l)), [none, none], szTokenS_ok l 1048576 (by omega) (by omega) hl hs, trivial, ?_⟩
  refine ⟨fun h => ⟨.refl _, trivial⟩, fun h => ?_⟩
  simp only [decide_eq_false_iff_not] at h
  have hb : bulkS Tok.bulk l ≤ 1048576 := by rw [szV] at h; split at h <;> omega
  have hlen := bulkS_len Tok.bulk l
  have e1 := toTokenS_ok l (by omega)
  have e2 := specArgsOf_ok l (by omega)
  have e3 := implArgsOf_ok l (by omega)
  have hal := argsOf_len l
  have hac := argsOf_cnt l
  have hai := argsOf_in l
  have hcl := cnt_tok l
  have e4 := eqTokenSS_ok (argsOf l) (by omega) (fun x hx => by have := hai x hx; omega)
  have e5 := eqTokenS_ok l (by omega)
  have e6 := markTokenS_ok l 1 (by omega) (by omega) (by omega)
  have e7 := markTokenSS_ok (argsOf l) 1 (by omega) (by omega) (by omega) (fun x hx => by have := hai x hx; omega)
  have e8 := heldTokenSS_ok (argsOf l) 1 (by omega) (by omega) (by omega) (fun x hx => by have := hai x hx; omega)
  refine ⟨[.ro], .ow 3 (l.map Tok.ro), [none], e1, trivial, ?_⟩
  refine ⟨[.ro], .ow 1 (owSS (argsOf l)), [none], by rw [toRo_toks]; exact e2, ⟨noRo_SS _, trivial⟩, ?_⟩
  refine ⟨[.ro], .ow 3 (l.map Tok.ro), [none], e1, trivial, ?_⟩
  refine ⟨[.ro], .ow 1 (owSS (argsOf l)), [none], by rw [toRo_toks]; exact e3, ⟨noRo_SS _, trivial⟩, ?_⟩
  refine ⟨[.ro, .ro], .bool true, [none, none], by rw [toRo_SS]; exact e4, ⟨trivial, trivial⟩, ?_⟩
  refine ⟨fun h => Bool.noConfusion h, fun h => ?_⟩
  refine ⟨[.ro], .ow 3 (l.map Tok.ro), [none], e1, trivial, ?_⟩
  refine ⟨[.ro, .ro], .bool true, [none, none], by rw [toRo_toks]; exact e5, ⟨trivial, trivial⟩, ?_⟩
  refine ⟨fun h => Bool.noConfusion h, fun h => ?_⟩
  refine ⟨[.muts 3, .ro], .int .i64 (1 + cntS Tok.w l), [some (.ow 3 ((markS Tok.mark Tok.w l 1).map Tok.ro)), none], e6, trivial, ?_⟩
  refine ⟨fun h => ?_, fun h => ?_⟩ <;> simp only [decide_eq_true_eq, decide_eq_false_iff_not] at h
  · refine ⟨[.ro, .ro], .bool true, [none, none], by rw [toRo_SS]; exact e4, ⟨trivial, trivial⟩, ?_⟩
    refine ⟨fun h => Bool.noConfusion h, fun h => ?_⟩
    refine ⟨[.muts 1, .ro], .int .i64 (1 + cntS (cntS Tok.w) (argsOf l)), [some (.ow 1 (owSS (markS (markS Tok.mark Tok.w) (cntS Tok.w) (argsOf l) 1))), none], e7, trivial, ?_⟩
    refine ⟨[.ro, .ro], .int .i64 (1 + cntS (cntS Tok.w) (argsOf l)), [none, none], by rw [toRo_SS]; exact e8, ⟨trivial, trivial⟩, ?_⟩
    refine ⟨fun h => ?_, fun h => ?_⟩ <;> simp only [decide_eq_true_eq, decide_eq_false_iff_not] at h
    · omega
    refine ⟨fun h => absurd rfl (of_decide_eq_true h), fun h => ?_⟩
    refine ⟨[.ro], .ow 3 (l.map Tok.ro), [none], e1, trivial, ?_⟩
    refine ⟨[.ro], .ow 1 (owSS (argsOf l)), [none], by rw [toRo_toks]; exact e3, ⟨noRo_SS _, trivial⟩, ?_⟩
    refine ⟨[.ro, .ro], .bool true, [none, none], by rw [toRo_SS]; exact e4, ⟨trivial, trivial⟩, ?_⟩
    refine ⟨fun h => Bool.noConfusion h, fun h => ?_⟩
    refine ⟨[.ro, .ro], .int .i64 (1 + cntS (cntS Tok.w) (argsOf l)), [none, none], by rw [toRo_SS]; exact e8, ⟨trivial, trivial⟩, ?_⟩
    refine ⟨fun h => ?_, fun h => ?_⟩ <;> simp only [decide_eq_true_eq, decide_eq_false_iff_not] at h
    · omega
    refine ⟨fun h => absurd rfl (of_decide_eq_true h), fun h => ?_⟩
    exact ⟨.refl _, trivial⟩
  · omega
end Go.Proofs.VI
