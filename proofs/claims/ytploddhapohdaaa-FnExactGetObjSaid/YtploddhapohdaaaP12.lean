/- Contracts of functions, and what they rest on: law FnExactGetObj. -/
import Derived.Test.YtploddhapohdaaaG4
set_option linter.unusedVariables false
set_option linter.unusedSimpArgs false
set_option maxRecDepth 10000
set_option maxHeartbeats 4000000
namespace Go.Proofs.VI
open Go
theorem law_ExactGetObj (aB : List UInt8) (hl_aB : aB.length ≤ 9223372036854775807) (ho_aB : ∀ y ∈ aB, GByte.ok y) : Con 4 [.ro 1 (GByte.ros aB)] (.bool true) [none] := by
  refine con Try.func4 ?_
  refine ⟨fun h => ⟨.refl _, trivial⟩, fun h => ?_⟩
  have e1 := of_decide_eq_false h
  try simp only [List.length_map] at e1
  have q_aB : aB.length ≤ 1099511627776 ∧ ∀ y ∈ aB, GByte.fit y := ⟨by omega, fun y _ => trivial⟩
  have m_aB : cntS GByte.w aB ≤ 4 * aB.length := by have := cnt4 GByte.w (fun _ => 0) aB (fun y _ => Nat.le_of_ble_eq_true rfl); rw [bulkS_zero _ (fun _ => rfl)] at this; exact this
  have hR := gO_fit aB
  have hcR := gO_w aB
  refine ⟨[.ro], .ow 1 (GByte.ows aB), [none], to_ByteS aB q_aB.1 q_aB.2, trivial, ?_⟩
  refine ⟨[.ro], .tup [.agg (GObj.ow ((gO (modO aB)).1)), .bool ((gO (modO aB)).2)], [none], by simp only [GByte.toRo_ows aB fun x _ => GByte.toRo_ow x]; exact spec_GetObj aB q_aB.1, ⟨⟨GObj.noRo_ow ((gO (modO aB)).1), trivial, trivial⟩, trivial⟩, ?_⟩
  try refine ⟨by kernel_rfl, ?_⟩
  refine ⟨[.ro], .ow 1 (GByte.ows aB), [none], to_ByteS aB q_aB.1 q_aB.2, trivial, ?_⟩
  refine ⟨[.ro], .tup [.agg (GObj.ow ((gO (modO aB)).1)), .bool ((gO (modO aB)).2)], [none], by simp only [GByte.toRo_ows aB fun x _ => GByte.toRo_ow x]; exact impl_GetObj aB q_aB.1, ⟨⟨GObj.noRo_ow ((gO (modO aB)).1), trivial, trivial⟩, trivial⟩, ?_⟩
  try refine ⟨by kernel_rfl, ?_⟩
  refine ⟨[.ro, .ro], .bool true, [none, none], by simp only [GSect.toRo_ows ((gO (modO aB)).1.sects) fun x _ => GSect.toRo_ow x, GGlob.toRo_ows ((gO (modO aB)).1.globs) fun x _ => GGlob.toRo_ow x]; exact eq_Obj ((gO (modO aB)).1) hR, ⟨trivial, trivial⟩, ?_⟩
  refine ⟨fun h => ?_, fun h => Bool.noConfusion h⟩
  first | refine ⟨fun h => absurd h (by simp), fun h => ?_⟩ | refine ⟨by kernel_rfl, fun h => absurd h (by simp), fun h => ?_⟩
  refine ⟨[.ro], .ow 1 (GByte.ows aB), [none], to_ByteS aB q_aB.1 q_aB.2, trivial, ?_⟩
  refine ⟨[.ro, .ro], .bool true, [none, none], by simp only [GByte.toRo_ows aB fun x _ => GByte.toRo_ow x]; exact eq_ByteS aB q_aB.1 q_aB.2, ⟨trivial, trivial⟩, ?_⟩
  first | refine ⟨fun h => Bool.noConfusion h, fun h => ?_⟩ | refine ⟨by kernel_rfl, fun h => Bool.noConfusion h, fun h => ?_⟩
  refine ⟨[.muts 1, .ro], .int .i64 (1 + cntS GByte.w aB), [some (.ow 1 (GByte.ows (markS GByte.mark GByte.w aB 1))), none], mark_ByteS aB 1 (by omega) (by omega) q_aB.1, trivial, ?_⟩
  refine ⟨fun h => ?_, fun h => absurd (of_decide_eq_true h) (by omega)⟩
  refine ⟨[.ro, .ro], .bool true, [none, none], by simp only [GSect.toRo_ows ((gO (modO aB)).1.sects) fun x _ => GSect.toRo_ow x, GGlob.toRo_ows ((gO (modO aB)).1.globs) fun x _ => GGlob.toRo_ow x]; exact eq_Obj ((gO (modO aB)).1) hR, ⟨trivial, trivial⟩, ?_⟩
  refine ⟨fun h => ?_, fun h => Bool.noConfusion h⟩
  first | refine ⟨fun h => absurd h (by simp), fun h => ?_⟩ | refine ⟨by kernel_rfl, fun h => absurd h (by simp), fun h => ?_⟩
  refine ⟨[.muta [3, 5], .ro], .int .i64 (1 + GObj.tw ((gO (modO aB)).1)), [some (.agg (GObj.outs ((gO (modO aB)).1) 1)), none], mark_Obj ((gO (modO aB)).1) 1 (by omega) (by omega) hR, trivial, ?_⟩
  refine ⟨[.ro, .ro], .int .i64 (1 + GObj.tw ((gO (modO aB)).1)), [none, none], held_Obj ((gO (modO aB)).1) 1 (by omega) (by omega) hR, ⟨trivial, trivial⟩, ?_⟩
  first | refine ⟨fun h => absurd (of_decide_eq_true h) (by omega), fun h => ?_⟩ | refine ⟨by kernel_rfl, fun h => absurd (of_decide_eq_true h) (by omega), fun h => ?_⟩
  first | refine ⟨fun h => absurd rfl (of_decide_eq_true h), fun h => ?_⟩ | refine ⟨by kernel_rfl, fun h => absurd rfl (of_decide_eq_true h), fun h => ?_⟩
  refine ⟨[.ro], .ow 1 (GByte.ows aB), [none], to_ByteS aB q_aB.1 q_aB.2, trivial, ?_⟩
  refine ⟨[.ro], .tup [.agg (GObj.ow ((gO (modO aB)).1)), .bool ((gO (modO aB)).2)], [none], by simp only [GByte.toRo_ows aB fun x _ => GByte.toRo_ow x]; exact impl_GetObj aB q_aB.1, ⟨⟨GObj.noRo_ow ((gO (modO aB)).1), trivial, trivial⟩, trivial⟩, ?_⟩
  try refine ⟨by kernel_rfl, ?_⟩
  refine ⟨[.ro, .ro], .bool true, [none, none], by simp only [GSect.toRo_ows ((gO (modO aB)).1.sects) fun x _ => GSect.toRo_ow x, GGlob.toRo_ows ((gO (modO aB)).1.globs) fun x _ => GGlob.toRo_ow x]; exact eq_Obj ((gO (modO aB)).1) hR, ⟨trivial, trivial⟩, ?_⟩
  refine ⟨fun h => ?_, fun h => Bool.noConfusion h⟩
  first | refine ⟨fun h => absurd h (by simp), fun h => ?_⟩ | refine ⟨by kernel_rfl, fun h => absurd h (by simp), fun h => ?_⟩
  refine ⟨[.ro, .ro], .int .i64 (1 + GObj.tw ((gO (modO aB)).1)), [none, none], held_Obj ((gO (modO aB)).1) 1 (by omega) (by omega) hR, ⟨trivial, trivial⟩, ?_⟩
  first | refine ⟨fun h => absurd (of_decide_eq_true h) (by omega), fun h => ?_⟩ | refine ⟨by kernel_rfl, fun h => absurd (of_decide_eq_true h) (by omega), fun h => ?_⟩
  first | refine ⟨fun h => absurd rfl (of_decide_eq_true h), fun h => ?_⟩ | refine ⟨by kernel_rfl, fun h => absurd rfl (of_decide_eq_true h), fun h => ?_⟩
  exact ⟨.refl _, trivial⟩
end Go.Proofs.VI
