/- Contracts of functions, and what they rest on: p11. -/
import Derived.Test.YtbiiekgepalbpaaH5
set_option linter.unusedVariables false
set_option linter.unusedSimpArgs false
set_option maxRecDepth 10000
set_option maxHeartbeats 4000000
namespace Go.Proofs.VI
open Go
theorem law_Known (code : List UInt8) (hl : code.length ≤ 9223372036854775807) (ho : ∀ y ∈ code, GByte.ok y) : Con 11 [.ro 1 (GByte.ros code)] (.bool true) [none] := by
  have cb := laws_big code
  refine con Try.func11 ?_
  by_cases g : 1048576 < code.length
  · rw [decide_eq_true g] at cb
    repeat' (first | (exfalso; simp at h; done) | refine And.intro (fun (h : _ = true) => ?_) (fun (h : _ = false) => ?_) | refine And.intro (fun (h : _ = false) => ?_) (fun (h : _ = true) => ?_) | refine And.intro (show regOk _ _ = true from by kernel_rfl) ?_ | refine And.intro (Sim.of_eq (congrArg AV.bool ?_)) trivial | refine ⟨[.ro], .bool true, [none], cb, trivial, ?_⟩ | fail)
    all_goals rfl
  rw [decide_eq_false g] at cb
  have hb : code.length ≤ 1099511627776 := by omega
  obtain ⟨e, fe, c0⟩ := spec_DrawKnown code hb
  have c1 := impl_Known e fe.1 fe.2
  have c2 := spec_Known e fe.1 fe.2
  obtain ⟨x2, a2⟩ := laws_at code hb 2
  obtain ⟨x3, a3⟩ := laws_at code hb 3
  obtain ⟨x4, a4⟩ := laws_at code hb 4
  obtain ⟨x5, a5⟩ := laws_at code hb 5
  have c3 := impl_Worth [IntKind.wrap .i64 (x2 * 250), x3, 9] [strA 103, strA 104] [x4, x5] (by simp) (by simp) e fe
  have kw : ∀ n w, knownE e = some n → worthX (wW [IntKind.wrap .i64 (x2 * 250), x3, 9]) (wG [strA 103, strA 104] [x4, x5]) e = some w → w = n := fun n w => known_worth (wW_in _) (wG_in _ _)
  rcases hk : knownE e with _ | n <;> rw [hk] at c1 c2
  · rcases hw : worthX (wW [IntKind.wrap .i64 (x2 * 250), x3, 9]) (wG [strA 103, strA 104] [x4, x5]) e with _ | w <;> rw [hw] at c3
    · repeat' (first | (exfalso; simp at h; done) | refine And.intro (fun (h : _ = true) => ?_) (fun (h : _ = false) => ?_) | refine And.intro (fun (h : _ = false) => ?_) (fun (h : _ = true) => ?_) | refine And.intro (show regOk _ _ = true from by kernel_rfl) ?_ | refine And.intro (Sim.of_eq (congrArg AV.bool ?_)) trivial | refine ⟨[.ro], .bool false, [none], cb, trivial, ?_⟩ | refine ⟨[.ro], .agg (GExpr.ro e), [none], c0, trivial, ?_⟩ | refine ⟨[.ro], .tup [.int .i64 0, .bool false], [none], c1, trivial, ?_⟩ | refine ⟨[.ro], .tup [.int .i64 0, .bool false], [none], c2, trivial, ?_⟩ | refine ⟨[.ro, .ro], .int .i64 x2, [none, none], a2, trivial, ?_⟩ | refine ⟨[.ro, .ro], .int .i64 x3, [none, none], a3, trivial, ?_⟩ | refine ⟨[.ro, .ro], .int .i64 x4, [none, none], a4, trivial, ?_⟩ | refine ⟨[.ro, .ro], .int .i64 x5, [none, none], a5, trivial, ?_⟩ | refine ⟨[.ro, .frz, .frz, .frz], .tup [.int .i64 0, .bool false], [none, none, none, none], c3, trivial, ?_⟩ | fail)
      all_goals first | rfl | simp
    · repeat' (first | (exfalso; simp at h; done) | refine And.intro (fun (h : _ = true) => ?_) (fun (h : _ = false) => ?_) | refine And.intro (fun (h : _ = false) => ?_) (fun (h : _ = true) => ?_) | refine And.intro (show regOk _ _ = true from by kernel_rfl) ?_ | refine And.intro (Sim.of_eq (congrArg AV.bool ?_)) trivial | refine ⟨[.ro], .bool false, [none], cb, trivial, ?_⟩ | refine ⟨[.ro], .agg (GExpr.ro e), [none], c0, trivial, ?_⟩ | refine ⟨[.ro], .tup [.int .i64 0, .bool false], [none], c1, trivial, ?_⟩ | refine ⟨[.ro], .tup [.int .i64 0, .bool false], [none], c2, trivial, ?_⟩ | refine ⟨[.ro, .ro], .int .i64 x2, [none, none], a2, trivial, ?_⟩ | refine ⟨[.ro, .ro], .int .i64 x3, [none, none], a3, trivial, ?_⟩ | refine ⟨[.ro, .ro], .int .i64 x4, [none, none], a4, trivial, ?_⟩ | refine ⟨[.ro, .ro], .int .i64 x5, [none, none], a5, trivial, ?_⟩ | refine ⟨[.ro, .frz, .frz, .frz], .tup [.int .i64 _, .bool true], [none, none, none, none], c3, trivial, ?_⟩ | fail)
      all_goals first | rfl | simp
  · rcases hw : worthX (wW [IntKind.wrap .i64 (x2 * 250), x3, 9]) (wG [strA 103, strA 104] [x4, x5]) e with _ | w <;> rw [hw] at c3
    · repeat' (first | (exfalso; simp at h; done) | refine And.intro (fun (h : _ = true) => ?_) (fun (h : _ = false) => ?_) | refine And.intro (fun (h : _ = false) => ?_) (fun (h : _ = true) => ?_) | refine And.intro (show regOk _ _ = true from by kernel_rfl) ?_ | refine And.intro (Sim.of_eq (congrArg AV.bool ?_)) trivial | refine ⟨[.ro], .bool false, [none], cb, trivial, ?_⟩ | refine ⟨[.ro], .agg (GExpr.ro e), [none], c0, trivial, ?_⟩ | refine ⟨[.ro], .tup [.int .i64 _, .bool true], [none], c1, trivial, ?_⟩ | refine ⟨[.ro], .tup [.int .i64 _, .bool true], [none], c2, trivial, ?_⟩ | refine ⟨[.ro, .ro], .int .i64 x2, [none, none], a2, trivial, ?_⟩ | refine ⟨[.ro, .ro], .int .i64 x3, [none, none], a3, trivial, ?_⟩ | refine ⟨[.ro, .ro], .int .i64 x4, [none, none], a4, trivial, ?_⟩ | refine ⟨[.ro, .ro], .int .i64 x5, [none, none], a5, trivial, ?_⟩ | refine ⟨[.ro, .frz, .frz, .frz], .tup [.int .i64 0, .bool false], [none, none, none, none], c3, trivial, ?_⟩ | fail)
      all_goals first | rfl | simp
    · have e0 := kw n w hk hw
      subst e0
      repeat' (first | (exfalso; simp at h; done) | refine And.intro (fun (h : _ = true) => ?_) (fun (h : _ = false) => ?_) | refine And.intro (fun (h : _ = false) => ?_) (fun (h : _ = true) => ?_) | refine And.intro (show regOk _ _ = true from by kernel_rfl) ?_ | refine And.intro (Sim.of_eq (congrArg AV.bool ?_)) trivial | refine ⟨[.ro], .bool false, [none], cb, trivial, ?_⟩ | refine ⟨[.ro], .agg (GExpr.ro e), [none], c0, trivial, ?_⟩ | refine ⟨[.ro], .tup [.int .i64 _, .bool true], [none], c1, trivial, ?_⟩ | refine ⟨[.ro], .tup [.int .i64 _, .bool true], [none], c2, trivial, ?_⟩ | refine ⟨[.ro, .ro], .int .i64 x2, [none, none], a2, trivial, ?_⟩ | refine ⟨[.ro, .ro], .int .i64 x3, [none, none], a3, trivial, ?_⟩ | refine ⟨[.ro, .ro], .int .i64 x4, [none, none], a4, trivial, ?_⟩ | refine ⟨[.ro, .ro], .int .i64 x5, [none, none], a5, trivial, ?_⟩ | refine ⟨[.ro, .frz, .frz, .frz], .tup [.int .i64 _, .bool true], [none, none, none, none], c3, trivial, ?_⟩ | fail)
      all_goals first | rfl | simp
end Go.Proofs.VI
