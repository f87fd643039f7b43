/- Contracts. -/
import Derived.Test.YtfhjbgicfchfkaaD4
set_option linter.unusedVariables false
set_option linter.unusedSimpArgs false
set_option maxRecDepth 10000
namespace Go.Proofs.VI
open Go
theorem law_ExactSubst (aL : List GToken) (aParams : List ByteArray) (aArgs : List (List GToken)) (hl_aL : aL.length ≤ 9223372036854775807) (ho_aL : ∀ y ∈ aL, GToken.ok y) (hl_aParams : aParams.length ≤ 9223372036854775807) (ho_aParams : ∀ y ∈ aParams, GString.ok y) (hl_aArgs : aArgs.length ≤ 9223372036854775807) (ho_aArgs : ∀ y ∈ aArgs, GTokenS.ok y) : Con 4 [.ro 3 (GToken.ros aL), .ro 1 (GString.ros aParams), .ro 1 (GTokenS.ros aArgs)] (.bool true) [none, none, none] := by
  refine con Try.func4 ?_
  refine ⟨[.ro, .ro], .int .i64 (szV 1048576 (bulkS GToken.bulk aL)), [none, none], sz_TokenS aL 1048576 (by omega) (by omega) hl_aL ho_aL, trivial, ?_⟩
  refine ⟨fun h => ⟨.refl _, trivial⟩, fun h => ?_⟩
  simp only [decide_eq_true_eq, decide_eq_false_iff_not] at h
  obtain ⟨e1, e1'⟩ := szV_nneg h
  refine ⟨[.ro, .ro], .int .i64 (szV (szV 1048576 (bulkS GToken.bulk aL)) (bulkS GString.bulk aParams)), [none, none], sz_StringS aParams (szV 1048576 (bulkS GToken.bulk aL)) (by omega) (by omega) hl_aParams ho_aParams, trivial, ?_⟩
  refine ⟨fun h => ⟨.refl _, trivial⟩, fun h => ?_⟩
  simp only [decide_eq_true_eq, decide_eq_false_iff_not] at h
  obtain ⟨e2, e2'⟩ := szV_nneg h
  refine ⟨[.ro, .ro], .int .i64 (szV (szV (szV 1048576 (bulkS GToken.bulk aL)) (bulkS GString.bulk aParams)) (bulkS GTokenS.bulk aArgs)), [none, none], sz_TokenSS aArgs (szV (szV 1048576 (bulkS GToken.bulk aL)) (bulkS GString.bulk aParams)) (by omega) (by omega) hl_aArgs ho_aArgs, trivial, ?_⟩
  refine ⟨fun h => ⟨.refl _, trivial⟩, fun h => ?_⟩
  simp only [decide_eq_true_eq, decide_eq_false_iff_not] at h
  obtain ⟨e3, e3'⟩ := szV_nneg h
  have b_aL := bulkS_len GToken.bulk aL
  have q_aL : aL.length ≤ 1099511627776 ∧ ∀ y ∈ aL, GToken.fit y := ⟨by omega, fun y hy => GToken.fit_of y (by have := bulkS_mem GToken.bulk aL y hy; omega)⟩
  have b_aParams := bulkS_len GString.bulk aParams
  have q_aParams : aParams.length ≤ 1099511627776 ∧ ∀ y ∈ aParams, GString.fit y := ⟨by omega, fun y hy => GString.fit_of y (by have := bulkS_mem GString.bulk aParams y hy; omega)⟩
  have b_aArgs := bulkS_len GTokenS.bulk aArgs
  have q_aArgs : aArgs.length ≤ 1099511627776 ∧ ∀ y ∈ aArgs, GTokenS.fit y := ⟨by omega, fun y hy => GTokenS.fit_of y (by have := bulkS_mem GTokenS.bulk aArgs y hy; omega)⟩
  have hc := cnt_Token aL
  have hc2 := cnt_String aParams
  have hc3 := cnt_TokenS aArgs
  have hc4 := bulkS_tot aArgs
  have hm := subst_bound aL aArgs (by omega)
  have hR : (subst aL aParams aArgs).length ≤ 1099511627776 ∧ ∀ y ∈ subst aL aParams aArgs, GToken.fit y := ⟨Nat.le_trans (subst_len _ _ _) hm, fun _ _ => trivial⟩
  have hcR := cnt_Token (subst aL aParams aArgs)
  refine ⟨[.ro], .ow 3 (GToken.ows aL), [none], to_TokenS aL q_aL.1 q_aL.2, trivial, ?_⟩
  refine ⟨[.ro], .ow 1 (GString.ows aParams), [none], to_StringS aParams q_aParams.1 q_aParams.2, trivial, ?_⟩
  refine ⟨[.ro], .ow 1 (GTokenS.ows aArgs), [none], to_TokenSS aArgs q_aArgs.1 q_aArgs.2, trivial, ?_⟩
  refine ⟨[.ro, .ro, .ro], .ow 3 (GToken.ows (subst aL aParams aArgs)), [none, none, none], by simp only [GToken.toRo_ows aL fun x _ => GToken.toRo_ow x, GString.toRo_ows aParams fun x _ => GString.toRo_ow x, GTokenS.toRo_ows aArgs fun x _ => GTokenS.toRo_ow x]; exact spec_Subst aL aParams aArgs q_aL.1 q_aParams.1 q_aArgs.1 hm, ⟨GToken.noRo_ows (subst aL aParams aArgs) fun x _ => GToken.noRo_ow x, trivial⟩, ?_⟩
  refine ⟨[.ro], .ow 3 (GToken.ows aL), [none], to_TokenS aL q_aL.1 q_aL.2, trivial, ?_⟩
  refine ⟨[.ro], .ow 1 (GString.ows aParams), [none], to_StringS aParams q_aParams.1 q_aParams.2, trivial, ?_⟩
  refine ⟨[.ro], .ow 1 (GTokenS.ows aArgs), [none], to_TokenSS aArgs q_aArgs.1 q_aArgs.2, trivial, ?_⟩
  refine ⟨[.ro, .ro, .ro], .ow 3 (GToken.ows (subst aL aParams aArgs)), [none, none, none], by simp only [GToken.toRo_ows aL fun x _ => GToken.toRo_ow x, GString.toRo_ows aParams fun x _ => GString.toRo_ow x, GTokenS.toRo_ows aArgs fun x _ => GTokenS.toRo_ow x]; exact impl_Subst aL aParams aArgs q_aL.1 q_aParams.1 q_aArgs.1 hm, ⟨GToken.noRo_ows (subst aL aParams aArgs) fun x _ => GToken.noRo_ow x, trivial⟩, ?_⟩
  refine ⟨[.ro, .ro], .bool true, [none, none], by simp only [GToken.toRo_ows (subst aL aParams aArgs) fun x _ => GToken.toRo_ow x]; exact eq_TokenS (subst aL aParams aArgs) hR.1 hR.2, ⟨trivial, trivial⟩, ?_⟩
  refine ⟨fun h => Bool.noConfusion h, fun h => ?_⟩
  refine ⟨[.ro], .ow 3 (GToken.ows aL), [none], to_TokenS aL q_aL.1 q_aL.2, trivial, ?_⟩
  refine ⟨[.ro, .ro], .bool true, [none, none], by simp only [GToken.toRo_ows aL fun x _ => GToken.toRo_ow x]; exact eq_TokenS aL q_aL.1 q_aL.2, ⟨trivial, trivial⟩, ?_⟩
  refine ⟨fun h => Bool.noConfusion h, fun h => ?_⟩
  refine ⟨[.ro], .ow 1 (GString.ows aParams), [none], to_StringS aParams q_aParams.1 q_aParams.2, trivial, ?_⟩
  refine ⟨[.ro, .ro], .bool true, [none, none], by simp only [GString.toRo_ows aParams fun x _ => GString.toRo_ow x]; exact eq_StringS aParams q_aParams.1 q_aParams.2, ⟨trivial, trivial⟩, ?_⟩
  refine ⟨fun h => Bool.noConfusion h, fun h => ?_⟩
  refine ⟨[.ro], .ow 1 (GTokenS.ows aArgs), [none], to_TokenSS aArgs q_aArgs.1 q_aArgs.2, trivial, ?_⟩
  refine ⟨[.ro, .ro], .bool true, [none, none], by simp only [GTokenS.toRo_ows aArgs fun x _ => GTokenS.toRo_ow x]; exact eq_TokenSS aArgs q_aArgs.1 q_aArgs.2, ⟨trivial, trivial⟩, ?_⟩
  refine ⟨fun h => Bool.noConfusion h, fun h => ?_⟩
  refine ⟨[.muts 3, .ro], .int .i64 (1 + cntS GToken.w aL), [some (.ow 3 (GToken.ows (markS GToken.mark GToken.w aL 1))), none], mark_TokenS aL 1 (by omega) (by omega) q_aL.1, trivial, ?_⟩
  refine ⟨[.muts 1, .ro], .int .i64 (1 + cntS GToken.w aL + cntS GString.w aParams), [some (.ow 1 (GString.ows (markS GString.mark GString.w aParams (1 + cntS GToken.w aL)))), none], mark_StringS aParams (1 + cntS GToken.w aL) (by omega) (by omega) q_aParams.1, trivial, ?_⟩
  refine ⟨[.muts 1, .ro], .int .i64 (1 + cntS GToken.w aL + cntS GString.w aParams + cntS GTokenS.w aArgs), [some (.ow 1 (GTokenS.ows (markS GTokenS.mark GTokenS.w aArgs (1 + cntS GToken.w aL + cntS GString.w aParams)))), none], mark_TokenSS aArgs (1 + cntS GToken.w aL + cntS GString.w aParams) (by omega) (by omega) q_aArgs.1 (fun y hy => (q_aArgs.2 y hy).1), trivial, ?_⟩
  refine ⟨fun h => ?_, fun h => absurd (of_decide_eq_true h) (by omega)⟩
  refine ⟨[.ro, .ro], .bool true, [none, none], by simp only [GToken.toRo_ows (subst aL aParams aArgs) fun x _ => GToken.toRo_ow x]; exact eq_TokenS (subst aL aParams aArgs) hR.1 hR.2, ⟨trivial, trivial⟩, ?_⟩
  refine ⟨fun h => Bool.noConfusion h, fun h => ?_⟩
  refine ⟨[.muts 3, .ro], .int .i64 (1 + cntS GToken.w (subst aL aParams aArgs)), [some (.ow 3 (GToken.ows (markS GToken.mark GToken.w (subst aL aParams aArgs) 1))), none], mark_TokenS (subst aL aParams aArgs) 1 (by omega) (by omega) hR.1, trivial, ?_⟩
  refine ⟨[.ro, .ro], .int .i64 (1 + cntS GToken.w (subst aL aParams aArgs)), [none, none], by simp only [GToken.toRo_ows (markS GToken.mark GToken.w (subst aL aParams aArgs) 1) fun x _ => GToken.toRo_ow x]; exact held_TokenS (subst aL aParams aArgs) 1 (by omega) (by omega) hR.1, ⟨trivial, trivial⟩, ?_⟩
  refine ⟨fun h => absurd (of_decide_eq_true h) (by omega), fun h => ?_⟩
  refine ⟨fun h => absurd rfl (of_decide_eq_true h), fun h => ?_⟩
  refine ⟨[.ro], .ow 3 (GToken.ows aL), [none], to_TokenS aL q_aL.1 q_aL.2, trivial, ?_⟩
  refine ⟨[.ro], .ow 1 (GString.ows aParams), [none], to_StringS aParams q_aParams.1 q_aParams.2, trivial, ?_⟩
  refine ⟨[.ro], .ow 1 (GTokenS.ows aArgs), [none], to_TokenSS aArgs q_aArgs.1 q_aArgs.2, trivial, ?_⟩
  refine ⟨[.ro, .ro, .ro], .ow 3 (GToken.ows (subst aL aParams aArgs)), [none, none, none], by simp only [GToken.toRo_ows aL fun x _ => GToken.toRo_ow x, GString.toRo_ows aParams fun x _ => GString.toRo_ow x, GTokenS.toRo_ows aArgs fun x _ => GTokenS.toRo_ow x]; exact impl_Subst aL aParams aArgs q_aL.1 q_aParams.1 q_aArgs.1 hm, ⟨GToken.noRo_ows (subst aL aParams aArgs) fun x _ => GToken.noRo_ow x, trivial⟩, ?_⟩
  refine ⟨[.ro, .ro], .bool true, [none, none], by simp only [GToken.toRo_ows (subst aL aParams aArgs) fun x _ => GToken.toRo_ow x]; exact eq_TokenS (subst aL aParams aArgs) hR.1 hR.2, ⟨trivial, trivial⟩, ?_⟩
  refine ⟨fun h => Bool.noConfusion h, fun h => ?_⟩
  refine ⟨[.ro, .ro], .int .i64 (1 + cntS GToken.w (subst aL aParams aArgs)), [none, none], by simp only [GToken.toRo_ows (markS GToken.mark GToken.w (subst aL aParams aArgs) 1) fun x _ => GToken.toRo_ow x]; exact held_TokenS (subst aL aParams aArgs) 1 (by omega) (by omega) hR.1, ⟨trivial, trivial⟩, ?_⟩
  refine ⟨fun h => absurd (of_decide_eq_true h) (by omega), fun h => ?_⟩
  refine ⟨fun h => absurd rfl (of_decide_eq_true h), fun h => ?_⟩
  exact ⟨.refl _, trivial⟩
end Go.Proofs.VI
