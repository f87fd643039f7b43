/- Contracts of functions, and what they rest on: law FnExactPutExpr. -/
import Derived.Test.YtbiiekgepalbpaaA2
set_option linter.unusedVariables false
set_option linter.unusedSimpArgs false
set_option maxRecDepth 10000
namespace Go.Proofs.VI
open Go
theorem law_ExactPutExpr (aB : List UInt8) (aE : GExpr) (hl_aB : aB.length ≤ 9223372036854775807) (ho_aB : ∀ y ∈ aB, GByte.ok y) (ho_aE : GExpr.ok aE) : Con 3 [.ro 1 (GByte.ros aB), .agg (GExpr.ro aE)] (.bool true) [none, none] := by
  refine con Try.func3 ?_
  refine ⟨fun h => ⟨.refl _, trivial⟩, fun h => ?_⟩
  have e1 := of_decide_eq_false h
  try simp only [List.length_map] at e1
  refine ⟨[.ro, .ro], .int .i64 (szV 1048576 (GExpr.bulk aE)), [none, none], sz_Expr aE 1048576 (by omega) (by omega) ho_aE, trivial, ?_⟩
  refine ⟨fun h => ⟨.refl _, trivial⟩, fun h => ?_⟩
  simp only [decide_eq_true_eq, decide_eq_false_iff_not] at h
  obtain ⟨e2, e2'⟩ := szV_nneg h
  have q_aB : aB.length ≤ 1099511627776 ∧ ∀ y ∈ aB, GByte.fit y := ⟨by omega, fun y _ => trivial⟩
  have m_aB : cntS GByte.w aB ≤ 4 * aB.length := by have := cnt4 GByte.w (fun _ => 0) aB (fun y _ => Nat.le_of_ble_eq_true rfl); rw [bulkS_zero _ (fun _ => rfl)] at this; exact this
  have q_aE := GExpr.fit_of aE (by omega)
  have m_aE := GExpr.tw4 aE
  have hp := putE_len aE
  have hR : (if okE aE 1 false then aB ++ putE aE else aB).length ≤ 1099511627776 ∧ ∀ y ∈ (if okE aE 1 false then aB ++ putE aE else aB), GByte.fit y := ⟨by split <;> (try simp only [List.length_append]) <;> omega, fun _ _ => trivial⟩
  have hcR := cntB (if okE aE 1 false then aB ++ putE aE else aB)
  refine ⟨[.ro], .ow 1 (GByte.ows aB), [none], to_ByteS aB q_aB.1 q_aB.2, trivial, ?_⟩
  refine ⟨[.ro], .agg (GExpr.ow aE), [none], to_Expr aE q_aE, trivial, ?_⟩
  refine ⟨[.ro, .ro], .ow 1 (GByte.ows (if okE aE 1 false then aB ++ putE aE else aB)), [none, none], by simp only [GByte.toRo_ows aB fun x _ => GByte.toRo_ow x, GExpr.toRo_ows aE.l fun x _ => GExpr.toRo_ow x]; exact spec_PutExpr aB aE q_aE ho_aE (by omega), ⟨GByte.noRo_ows (if okE aE 1 false then aB ++ putE aE else aB) fun x _ => GByte.noRo_ow x, trivial⟩, ?_⟩
  try refine ⟨rfl, ?_⟩
  refine ⟨[.ro], .ow 1 (GByte.ows aB), [none], to_ByteS aB q_aB.1 q_aB.2, trivial, ?_⟩
  refine ⟨[.ro], .agg (GExpr.ow aE), [none], to_Expr aE q_aE, trivial, ?_⟩
  refine ⟨[.ro, .ro], .ow 1 (GByte.ows (if okE aE 1 false then aB ++ putE aE else aB)), [none, none], by simp only [GByte.toRo_ows aB fun x _ => GByte.toRo_ow x, GExpr.toRo_ows aE.l fun x _ => GExpr.toRo_ow x]; exact impl_PutExpr aB aE q_aE ho_aE (by omega), ⟨GByte.noRo_ows (if okE aE 1 false then aB ++ putE aE else aB) fun x _ => GByte.noRo_ow x, trivial⟩, ?_⟩
  try refine ⟨rfl, ?_⟩
  refine ⟨[.ro, .ro], .bool true, [none, none], by simp only [GByte.toRo_ows (if okE aE 1 false then aB ++ putE aE else aB) fun x _ => GByte.toRo_ow x]; exact eq_ByteS (if okE aE 1 false then aB ++ putE aE else aB) hR.1 hR.2, ⟨trivial, trivial⟩, ?_⟩
  first | refine ⟨fun h => Bool.noConfusion h, fun h => ?_⟩ | refine ⟨rfl, fun h => Bool.noConfusion h, fun h => ?_⟩
  refine ⟨[.ro], .ow 1 (GByte.ows aB), [none], to_ByteS aB q_aB.1 q_aB.2, trivial, ?_⟩
  refine ⟨[.ro, .ro], .bool true, [none, none], by simp only [GByte.toRo_ows aB fun x _ => GByte.toRo_ow x]; exact eq_ByteS aB q_aB.1 q_aB.2, ⟨trivial, trivial⟩, ?_⟩
  first | refine ⟨fun h => Bool.noConfusion h, fun h => ?_⟩ | refine ⟨rfl, fun h => Bool.noConfusion h, fun h => ?_⟩
  refine ⟨[.ro], .agg (GExpr.ow aE), [none], to_Expr aE q_aE, trivial, ?_⟩
  refine ⟨[.ro, .ro], .bool true, [none, none], by simp only [GExpr.toRo_ows aE.l fun x _ => GExpr.toRo_ow x]; exact eq_Expr aE q_aE, ⟨trivial, trivial⟩, ?_⟩
  first | refine ⟨fun h => Bool.noConfusion h, fun h => ?_⟩ | refine ⟨rfl, fun h => Bool.noConfusion h, fun h => ?_⟩
  refine ⟨[.muts 1, .ro], .int .i64 (1 + cntS GByte.w aB), [some (.ow 1 (GByte.ows (markS GByte.mark GByte.w aB 1))), none], mark_ByteS aB 1 (by omega) (by omega) q_aB.1, trivial, ?_⟩
  refine ⟨[.muta [0, 0, 0, 4], .ro], .int .i64 (1 + cntS GByte.w aB + GExpr.tw aE), [some (.agg (GExpr.outs aE (1 + cntS GByte.w aB))), none], mark_Expr aE (1 + cntS GByte.w aB) (by omega) (by omega) q_aE, trivial, ?_⟩
  refine ⟨fun h => ?_, fun h => absurd (of_decide_eq_true h) (by omega)⟩
  refine ⟨[.ro, .ro], .bool true, [none, none], by simp only [GByte.toRo_ows (if okE aE 1 false then aB ++ putE aE else aB) fun x _ => GByte.toRo_ow x]; exact eq_ByteS (if okE aE 1 false then aB ++ putE aE else aB) hR.1 hR.2, ⟨trivial, trivial⟩, ?_⟩
  first | refine ⟨fun h => Bool.noConfusion h, fun h => ?_⟩ | refine ⟨rfl, fun h => Bool.noConfusion h, fun h => ?_⟩
  refine ⟨[.muts 1, .ro], .int .i64 (1 + cntS GByte.w (if okE aE 1 false then aB ++ putE aE else aB)), [some (.ow 1 (GByte.ows (markS GByte.mark GByte.w (if okE aE 1 false then aB ++ putE aE else aB) 1))), none], mark_ByteS (if okE aE 1 false then aB ++ putE aE else aB) 1 (by omega) (by omega) hR.1, trivial, ?_⟩
  refine ⟨[.ro, .ro], .int .i64 (1 + cntS GByte.w (if okE aE 1 false then aB ++ putE aE else aB)), [none, none], by simp only [GByte.toRo_ows (markS GByte.mark GByte.w (if okE aE 1 false then aB ++ putE aE else aB) 1) fun x _ => GByte.toRo_ow x]; exact held_ByteS (if okE aE 1 false then aB ++ putE aE else aB) 1 (by omega) (by omega) hR.1, ⟨trivial, trivial⟩, ?_⟩
  refine ⟨fun h => absurd (of_decide_eq_true h) (by omega), fun h => ?_⟩
  refine ⟨fun h => absurd rfl (of_decide_eq_true h), fun h => ?_⟩
  refine ⟨[.ro], .ow 1 (GByte.ows aB), [none], to_ByteS aB q_aB.1 q_aB.2, trivial, ?_⟩
  refine ⟨[.ro], .agg (GExpr.ow aE), [none], to_Expr aE q_aE, trivial, ?_⟩
  refine ⟨[.ro, .ro], .ow 1 (GByte.ows (if okE aE 1 false then aB ++ putE aE else aB)), [none, none], by simp only [GByte.toRo_ows aB fun x _ => GByte.toRo_ow x, GExpr.toRo_ows aE.l fun x _ => GExpr.toRo_ow x]; exact impl_PutExpr aB aE q_aE ho_aE (by omega), ⟨GByte.noRo_ows (if okE aE 1 false then aB ++ putE aE else aB) fun x _ => GByte.noRo_ow x, trivial⟩, ?_⟩
  try refine ⟨rfl, ?_⟩
  refine ⟨[.ro, .ro], .bool true, [none, none], by simp only [GByte.toRo_ows (if okE aE 1 false then aB ++ putE aE else aB) fun x _ => GByte.toRo_ow x]; exact eq_ByteS (if okE aE 1 false then aB ++ putE aE else aB) hR.1 hR.2, ⟨trivial, trivial⟩, ?_⟩
  first | refine ⟨fun h => Bool.noConfusion h, fun h => ?_⟩ | refine ⟨rfl, fun h => Bool.noConfusion h, fun h => ?_⟩
  refine ⟨[.ro, .ro], .int .i64 (1 + cntS GByte.w (if okE aE 1 false then aB ++ putE aE else aB)), [none, none], by simp only [GByte.toRo_ows (markS GByte.mark GByte.w (if okE aE 1 false then aB ++ putE aE else aB) 1) fun x _ => GByte.toRo_ow x]; exact held_ByteS (if okE aE 1 false then aB ++ putE aE else aB) 1 (by omega) (by omega) hR.1, ⟨trivial, trivial⟩, ?_⟩
  refine ⟨fun h => absurd (of_decide_eq_true h) (by omega), fun h => ?_⟩
  refine ⟨fun h => absurd rfl (of_decide_eq_true h), fun h => ?_⟩
  exact ⟨.refl _, trivial⟩
end Go.Proofs.VI
