/- Contracts of functions, and what they rest on: p11b. -/
import Derived.Test.YtbiiekgepalbpaaH5
set_option linter.unusedVariables false
set_option linter.unusedSimpArgs false
set_option maxRecDepth 10000
set_option maxHeartbeats 4000000
namespace Go.Proofs.VI
open Go
theorem sameE_refl : ∀ e : GExpr, sameE e e = true := by
  refine GExpr.ind fun a ih => ?_
  obtain ⟨k, n, s, l⟩ := a
  have hl : ∀ l : List GExpr, (∀ x ∈ l, sameE x x = true) → sameL l l = true := fun l => by
    induction l with
    | nil => intro _; rfl
    | cons x l ih2 =>
      intro h
      simp only [sameL, h x List.mem_cons_self, ih2 fun y hy => h y (List.mem_cons_of_mem _ hy), Bool.and_self]
  have := hl l ih
  simp [sameE, GExpr.k, GExpr.n, GExpr.s, GExpr.l, this]
theorem foldX_fo {e : GExpr} (h : FO e) : FO (foldX e) := by
  rw [foldX]
  split
  · rename_i o; exact fo_okx (foldE_ok ((okE_six e).1 o)).1
  · exact h
theorem law_Folds (code : List UInt8) (hl : code.length ≤ 9223372036854775807) (ho : ∀ y ∈ code, GByte.ok y) : Con 12 [.ro 1 (GByte.ros code)] (.bool true) [none] := by
  have cb := laws_big code
  refine con Try.func12 ?_
  by_cases g : 1048576 < code.length
  · rw [decide_eq_true g] at cb
    repeat' (first | (exfalso; simp at h; done) | refine And.intro (fun (h : _ = true) => ?_) (fun (h : _ = false) => ?_) | refine And.intro (fun (h : _ = false) => ?_) (fun (h : _ = true) => ?_) | refine And.intro (show regOk _ _ = true from by kernel_rfl) ?_ | refine And.intro (Sim.of_eq (congrArg AV.bool ?_)) trivial | refine ⟨[.ro], .bool true, [none], cb, trivial, ?_⟩ | fail)
    all_goals rfl
  rw [decide_eq_false g] at cb
  have hb : code.length ≤ 1099511627776 := by omega
  obtain ⟨e, fe, c0⟩ := spec_DrawFold code hb
  have fx := foldX_fo fe
  have c1 := impl_Fold e fe.1 fe.2
  have c2 := spec_Fold e fe.1 fe.2
  have c3 := impl_Fold (foldX e) fx.1 fx.2
  rw [foldX_idem] at c3
  have s1 := impl_SameExpr (foldX e) (foldX e) fx.1 fx.1
  rw [sameE_refl] at s1
  have o1 := impl_ExprOk e fe.1 fe.2
  have o2 := impl_ExprOk (foldX e) fx.1 fx.2
  rw [foldX_okE] at o2
  obtain ⟨x2, a2⟩ := laws_at code hb 2
  obtain ⟨x3, a3⟩ := laws_at code hb 3
  obtain ⟨x4, a4⟩ := laws_at code hb 4
  obtain ⟨x5, a5⟩ := laws_at code hb 5
  obtain ⟨x6, a6⟩ := laws_at code hb 6
  have w1 := impl_Worth [IntKind.wrap .i64 (x2 * 200), IntKind.wrap .i64 (x3 * 3), x4] [strA 103, strA 104] [IntKind.wrap .i64 (x5 * 111), x6] (by simp) (by simp) e fe
  have w2 := impl_Worth [IntKind.wrap .i64 (x2 * 200), IntKind.wrap .i64 (x3 * 3), x4] [strA 103, strA 104] [IntKind.wrap .i64 (x5 * 111), x6] (by simp) (by simp) (foldX e) fx
  have kw : ∀ n, worthX (wW [IntKind.wrap .i64 (x2 * 200), IntKind.wrap .i64 (x3 * 3), x4]) (wG [strA 103, strA 104] [IntKind.wrap .i64 (x5 * 111), x6]) e = some n → worthX (wW [IntKind.wrap .i64 (x2 * 200), IntKind.wrap .i64 (x3 * 3), x4]) (wG [strA 103, strA 104] [IntKind.wrap .i64 (x5 * 111), x6]) (foldX e) = some n := fun n => worthX_fold (wW_in _) (wG_in _ _)
  generalize okE e 1 false = q at *
  rcases hw : worthX (wW [IntKind.wrap .i64 (x2 * 200), IntKind.wrap .i64 (x3 * 3), x4]) (wG [strA 103, strA 104] [IntKind.wrap .i64 (x5 * 111), x6]) e with _ | n <;> rw [hw] at w1
  · rcases hv : worthX (wW [IntKind.wrap .i64 (x2 * 200), IntKind.wrap .i64 (x3 * 3), x4]) (wG [strA 103, strA 104] [IntKind.wrap .i64 (x5 * 111), x6]) (foldX e) with _ | v <;> rw [hv] at w2
    · repeat' (first | (exfalso; simp at h; done) | refine And.intro (fun (h : _ = true) => ?_) (fun (h : _ = false) => ?_) | refine And.intro (fun (h : _ = false) => ?_) (fun (h : _ = true) => ?_) | refine And.intro (show regOk _ _ = true from by kernel_rfl) ?_ | refine And.intro (Sim.of_eq (congrArg AV.bool ?_)) trivial | refine ⟨[.ro], .bool false, [none], cb, trivial, ?_⟩ | refine ⟨[.ro], .agg (GExpr.ro e), [none], c0, trivial, ?_⟩ | refine ⟨[.ro], .agg (GExpr.ro (foldX e)), [none], c1, trivial, ?_⟩ | refine ⟨[.ro], .agg (GExpr.ro (foldX e)), [none], c2, trivial, ?_⟩ | refine ⟨[.ro], .agg (GExpr.ro (foldX e)), [none], c3, trivial, ?_⟩ | refine ⟨[.ro, .ro], .bool true, [none, none], s1, trivial, ?_⟩ | refine ⟨[.ro], .bool q, [none], o1, trivial, ?_⟩ | refine ⟨[.ro], .bool q, [none], o2, trivial, ?_⟩ | refine ⟨[.ro, .ro], .int .i64 x2, [none, none], a2, trivial, ?_⟩ | refine ⟨[.ro, .ro], .int .i64 x3, [none, none], a3, trivial, ?_⟩ | refine ⟨[.ro, .ro], .int .i64 x4, [none, none], a4, trivial, ?_⟩ | refine ⟨[.ro, .ro], .int .i64 x5, [none, none], a5, trivial, ?_⟩ | refine ⟨[.ro, .ro], .int .i64 x6, [none, none], a6, trivial, ?_⟩ | refine ⟨[.ro, .ro, .ro, .ro], .tup [.int .i64 0, .bool false], [none, none, none, none], w1, ⟨⟨trivial, trivial, trivial⟩, trivial⟩, ?_⟩ | refine ⟨[.ro, .ro, .ro, .ro], .tup [.int .i64 0, .bool false], [none, none, none, none], w2, ⟨⟨trivial, trivial, trivial⟩, trivial⟩, ?_⟩ | fail)
      all_goals first | rfl | (cases q <;> simp_all; done) | simp
    · repeat' (first | (exfalso; simp at h; done) | refine And.intro (fun (h : _ = true) => ?_) (fun (h : _ = false) => ?_) | refine And.intro (fun (h : _ = false) => ?_) (fun (h : _ = true) => ?_) | refine And.intro (show regOk _ _ = true from by kernel_rfl) ?_ | refine And.intro (Sim.of_eq (congrArg AV.bool ?_)) trivial | refine ⟨[.ro], .bool false, [none], cb, trivial, ?_⟩ | refine ⟨[.ro], .agg (GExpr.ro e), [none], c0, trivial, ?_⟩ | refine ⟨[.ro], .agg (GExpr.ro (foldX e)), [none], c1, trivial, ?_⟩ | refine ⟨[.ro], .agg (GExpr.ro (foldX e)), [none], c2, trivial, ?_⟩ | refine ⟨[.ro], .agg (GExpr.ro (foldX e)), [none], c3, trivial, ?_⟩ | refine ⟨[.ro, .ro], .bool true, [none, none], s1, trivial, ?_⟩ | refine ⟨[.ro], .bool q, [none], o1, trivial, ?_⟩ | refine ⟨[.ro], .bool q, [none], o2, trivial, ?_⟩ | refine ⟨[.ro, .ro], .int .i64 x2, [none, none], a2, trivial, ?_⟩ | refine ⟨[.ro, .ro], .int .i64 x3, [none, none], a3, trivial, ?_⟩ | refine ⟨[.ro, .ro], .int .i64 x4, [none, none], a4, trivial, ?_⟩ | refine ⟨[.ro, .ro], .int .i64 x5, [none, none], a5, trivial, ?_⟩ | refine ⟨[.ro, .ro], .int .i64 x6, [none, none], a6, trivial, ?_⟩ | refine ⟨[.ro, .ro, .ro, .ro], .tup [.int .i64 0, .bool false], [none, none, none, none], w1, ⟨⟨trivial, trivial, trivial⟩, trivial⟩, ?_⟩ | refine ⟨[.ro, .ro, .ro, .ro], .tup [.int .i64 _, .bool true], [none, none, none, none], w2, ⟨⟨trivial, trivial, trivial⟩, trivial⟩, ?_⟩ | fail)
      all_goals first | rfl | (cases q <;> simp_all; done) | simp
  · rw [kw n hw] at w2
    repeat' (first | (exfalso; simp at h; done) | refine And.intro (fun (h : _ = true) => ?_) (fun (h : _ = false) => ?_) | refine And.intro (fun (h : _ = false) => ?_) (fun (h : _ = true) => ?_) | refine And.intro (show regOk _ _ = true from by kernel_rfl) ?_ | refine And.intro (Sim.of_eq (congrArg AV.bool ?_)) trivial | refine ⟨[.ro], .bool false, [none], cb, trivial, ?_⟩ | refine ⟨[.ro], .agg (GExpr.ro e), [none], c0, trivial, ?_⟩ | refine ⟨[.ro], .agg (GExpr.ro (foldX e)), [none], c1, trivial, ?_⟩ | refine ⟨[.ro], .agg (GExpr.ro (foldX e)), [none], c2, trivial, ?_⟩ | refine ⟨[.ro], .agg (GExpr.ro (foldX e)), [none], c3, trivial, ?_⟩ | refine ⟨[.ro, .ro], .bool true, [none, none], s1, trivial, ?_⟩ | refine ⟨[.ro], .bool q, [none], o1, trivial, ?_⟩ | refine ⟨[.ro], .bool q, [none], o2, trivial, ?_⟩ | refine ⟨[.ro, .ro], .int .i64 x2, [none, none], a2, trivial, ?_⟩ | refine ⟨[.ro, .ro], .int .i64 x3, [none, none], a3, trivial, ?_⟩ | refine ⟨[.ro, .ro], .int .i64 x4, [none, none], a4, trivial, ?_⟩ | refine ⟨[.ro, .ro], .int .i64 x5, [none, none], a5, trivial, ?_⟩ | refine ⟨[.ro, .ro], .int .i64 x6, [none, none], a6, trivial, ?_⟩ | refine ⟨[.ro, .ro, .ro, .ro], .tup [.int .i64 _, .bool true], [none, none, none, none], w1, ⟨⟨trivial, trivial, trivial⟩, trivial⟩, ?_⟩ | refine ⟨[.ro, .ro, .ro, .ro], .tup [.int .i64 _, .bool true], [none, none, none, none], w2, ⟨⟨trivial, trivial, trivial⟩, trivial⟩, ?_⟩ | fail)
    all_goals first | rfl | (cases q <;> simp_all; done) | simp
end Go.Proofs.VI
