/- Contracts of functions, and what they rest on: l15w. -/
import Derived.Test.YtbiiekgepalbpaaF3
set_option linter.unusedVariables false
set_option linter.unusedSimpArgs false
set_option maxRecDepth 10000
set_option maxHeartbeats 4000000
namespace Go.Proofs.VI
open Go
def argW (a : GArg) : Int := if 6 ≤ a.form then 1 else 0
def wordsOf (x : GLine) : Int :=
  if x.k = 3 then 1 + argW x.src + argW x.dst else if x.k = 4 then x.l.length
  else if x.k = 5 then (match x.l with | [e] => (match knownE e with | some n => n | none => 0) | _ => 0) else 0
theorem len_one {l : List GExpr} : (∃ a, l = [a]) ∨ ((l.length : Int) ≠ 1 ∧ ∀ (f : GExpr → Int), (match l with | [e] => f e | _ => 0) = 0) := by
  match l with
  | [] => exact .inr ⟨by simp, fun _ => rfl⟩
  | [a] => exact .inl ⟨a, rfl⟩
  | _ :: _ :: _ => exact .inr ⟨by simp only [List.length_cons]; omega, fun _ => rfl⟩
theorem spec_l15Arg (a : GArg) : Con 132 [.agg (GArg.ro a)] (.int .i64 (argW a)) [none] := by
  refine con Try.func132 ?_
  repeat' (first | refine And.intro (fun (h : _ = true) => ?_) (fun (h : _ = false) => ?_) | refine And.intro (fun (h : _ = false) => ?_) (fun (h : _ = true) => ?_) | refine And.intro (show regOk _ _ = true from by kernel_rfl) ?_ | refine And.intro (Sim.of_eq (congrArg (AV.int .i64) ?_)) trivial | fail)
  all_goals simp_all [argW]
theorem spec_WordsOf (x : GLine) (hx : GLine.fit x) (ox : GLine.ok x) : Con 66 [.agg (GLine.ro x)] (.int .i64 (wordsOf x)) [none] := by
  refine con Try.func66 ?_
  have fx := GLine.fit_un hx
  have gx := GLine.ok_un ox
  have la := ros_len x.l
  have e1 : IntKind.wrap .i64 (1 + argW x.src) = 1 + argW x.src := by rw [argW]; split <;> rfl
  have e2 : IntKind.wrap .i64 (1 + argW x.src + argW x.dst) = 1 + argW x.src + argW x.dst := by rw [argW, argW]; split <;> split <;> rfl
  rcases len_one (l := x.l) with ⟨a, hl⟩ | ⟨hl, hl2⟩
  · have c := spec_Known a (fx.2.2.2 a (by rw [hl]; simp)) (gx.2.2.2.2.2.2.2 a (by rw [hl]; simp))
    have r0 : (GExpr.ros x.l)[0]? = some (GExpr.ro a) := by rw [hl]; exact ros_get [a] 0 (by simp)
    clear fx gx hx ox
    rcases hk : knownE a with _ | n <;> rw [hk] at c
    · repeat' (first | refine And.intro (fun (h : _ = true) => ?_) (fun (h : _ = false) => ?_) | refine And.intro (fun (h : _ = false) => ?_) (fun (h : _ = true) => ?_) | refine And.intro (show regOk _ _ = true from by kernel_rfl) ?_ | refine And.intro (Sim.of_eq (congrArg (AV.int .i64) ?_)) trivial | refine ⟨[.ro], .int .i64 _, [none], spec_l15Arg x.src, (by first | exact trivial | exact ⟨trivial, trivial⟩ | exact ⟨GByte.nro _, trivial⟩ | exact ⟨GExpr.noRo_ow _, trivial⟩ | exact ⟨GExpr.nro _, trivial⟩ | exact ⟨GInt.nro _, trivial⟩ | exact ⟨GString.nro _, trivial⟩), ?_⟩ | refine ⟨[.ro], .int .i64 _, [none], spec_l15Arg x.dst, (by first | exact trivial | exact ⟨trivial, trivial⟩ | exact ⟨GByte.nro _, trivial⟩ | exact ⟨GExpr.noRo_ow _, trivial⟩ | exact ⟨GExpr.nro _, trivial⟩ | exact ⟨GInt.nro _, trivial⟩ | exact ⟨GString.nro _, trivial⟩), ?_⟩ | refine ⟨Int.le_refl 0, _, r0, ?_⟩ | refine ⟨[.ro], .tup [.int .i64 _, .bool _], [none], .nbr rfl c, trivial, ?_⟩ | fail)
      all_goals clear c r0
      all_goals simp_all [wordsOf]
    · repeat' (first | refine And.intro (fun (h : _ = true) => ?_) (fun (h : _ = false) => ?_) | refine And.intro (fun (h : _ = false) => ?_) (fun (h : _ = true) => ?_) | refine And.intro (show regOk _ _ = true from by kernel_rfl) ?_ | refine And.intro (Sim.of_eq (congrArg (AV.int .i64) ?_)) trivial | refine ⟨[.ro], .int .i64 _, [none], spec_l15Arg x.src, (by first | exact trivial | exact ⟨trivial, trivial⟩ | exact ⟨GByte.nro _, trivial⟩ | exact ⟨GExpr.noRo_ow _, trivial⟩ | exact ⟨GExpr.nro _, trivial⟩ | exact ⟨GInt.nro _, trivial⟩ | exact ⟨GString.nro _, trivial⟩), ?_⟩ | refine ⟨[.ro], .int .i64 _, [none], spec_l15Arg x.dst, (by first | exact trivial | exact ⟨trivial, trivial⟩ | exact ⟨GByte.nro _, trivial⟩ | exact ⟨GExpr.noRo_ow _, trivial⟩ | exact ⟨GExpr.nro _, trivial⟩ | exact ⟨GInt.nro _, trivial⟩ | exact ⟨GString.nro _, trivial⟩), ?_⟩ | refine ⟨Int.le_refl 0, _, r0, ?_⟩ | refine ⟨[.ro], .tup [.int .i64 _, .bool _], [none], .nbr rfl c, trivial, ?_⟩ | fail)
      all_goals clear c r0
      all_goals simp_all [wordsOf]
  · clear fx gx hx ox
    repeat' (first | refine And.intro (fun (h : _ = true) => ?_) (fun (h : _ = false) => ?_) | refine And.intro (fun (h : _ = false) => ?_) (fun (h : _ = true) => ?_) | refine And.intro (show regOk _ _ = true from by kernel_rfl) ?_ | refine And.intro (Sim.of_eq (congrArg (AV.int .i64) ?_)) trivial | refine ⟨[.ro], .int .i64 _, [none], spec_l15Arg x.src, (by first | exact trivial | exact ⟨trivial, trivial⟩ | exact ⟨GByte.nro _, trivial⟩ | exact ⟨GExpr.noRo_ow _, trivial⟩ | exact ⟨GExpr.nro _, trivial⟩ | exact ⟨GInt.nro _, trivial⟩ | exact ⟨GString.nro _, trivial⟩), ?_⟩ | refine ⟨[.ro], .int .i64 _, [none], spec_l15Arg x.dst, (by first | exact trivial | exact ⟨trivial, trivial⟩ | exact ⟨GByte.nro _, trivial⟩ | exact ⟨GExpr.noRo_ow _, trivial⟩ | exact ⟨GExpr.nro _, trivial⟩ | exact ⟨GInt.nro _, trivial⟩ | exact ⟨GString.nro _, trivial⟩), ?_⟩ | fail)
    all_goals simp_all [wordsOf]
theorem impl_WordsOf (x : GLine) (hx : GLine.fit x) (ox : GLine.ok x) : Con 67 [.agg (GLine.ro x)] (.int .i64 (wordsOf x)) [none] := by
  refine con Try.func67 ?_
  have fx := GLine.fit_un hx
  have gx := GLine.ok_un ox
  have la := ros_len x.l
  refine ⟨fun hk3 => ?_, fun hk3 => ?_⟩ <;> simp only [decide_eq_true_eq, decide_eq_false_iff_not] at hk3
  · refine ⟨{ i : Nat // i ≤ 2 }, fun i => ⟨[(3, .int .i64 (1 + (if 0 < i.1 then argW x.src else 0) + (if 1 < i.1 then argW x.dst else 0))), (16, .own 0), (17, .int .i64 2), (18, .int .i64 i.1)], [(0, .rows 6 [GArg.ro x.src, GArg.ro x.dst] [])]⟩, fun i => 2 - i.1, ⟨0, by omega⟩, ?_, ?_⟩
    · exact ⟨rfl, rfl, rfl, rfl, .refl _, trivial⟩
    · rintro ⟨i, hi⟩
      have hc : i = 0 ∨ i = 1 ∨ i = 2 := by omega
      rcases hc with rfl | rfl | rfl <;> dsimp only
      · refine ⟨fun _ => ⟨by decide, (show (0 : Int) < 2 from by decide), GArg.ro x.src, rfl, fun h => ?_, fun h => ?_⟩, fun h => absurd h (by decide)⟩ <;> simp only [decide_eq_true_eq, decide_eq_false_iff_not] at h
        · have e : argW x.src = 1 := if_pos h
          exact ⟨⟨1, by omega⟩, (show 2 - 1 < 2 - 0 from by decide), congrArg (AV.int .i64) (by simp [e]; rfl), rfl, rfl, rfl, .refl _, trivial⟩
        · have e : argW x.src = 0 := if_neg h
          exact ⟨⟨1, by omega⟩, (show 2 - 1 < 2 - 0 from by decide), congrArg (AV.int .i64) (by simp [e]), rfl, rfl, rfl, .refl _, trivial⟩
      · refine ⟨fun _ => ⟨by decide, (show (1 : Int) < 2 from by decide), GArg.ro x.dst, rfl, fun h => ?_, fun h => ?_⟩, fun h => absurd h (by decide)⟩ <;> simp only [decide_eq_true_eq, decide_eq_false_iff_not] at h
        · have e : argW x.dst = 1 := if_pos h
          have e2 : IntKind.wrap .i64 (1 + argW x.src + 1) = 1 + argW x.src + 1 := by rw [argW]; split <;> rfl
          exact ⟨⟨2, by omega⟩, (show 2 - 2 < 2 - 1 from by decide), congrArg (AV.int .i64) (by simp [e, e2]), rfl, rfl, rfl, .refl _, trivial⟩
        · have e : argW x.dst = 0 := if_neg h
          exact ⟨⟨2, by omega⟩, (show 2 - 2 < 2 - 1 from by decide), congrArg (AV.int .i64) (by simp [e]), rfl, rfl, rfl, .refl _, trivial⟩
      · refine ⟨fun h => absurd h (by decide), fun _ => ⟨.of_eq (congrArg (AV.int .i64) ?_), trivial⟩⟩
        rw [wordsOf, if_pos hk3]; simp
  · rcases len_one (l := x.l) with ⟨a, hl⟩ | ⟨hl, hl2⟩
    · have c := impl_Known a (fx.2.2.2 a (by rw [hl]; simp)) (gx.2.2.2.2.2.2.2 a (by rw [hl]; simp))
      have r0 : (GExpr.ros x.l)[0]? = some (GExpr.ro a) := by rw [hl]; exact ros_get [a] 0 (by simp)
      clear fx gx hx ox
      rcases hk : knownE a with _ | n <;> rw [hk] at c
      · repeat' (first | refine And.intro (fun (h : _ = true) => ?_) (fun (h : _ = false) => ?_) | refine And.intro (fun (h : _ = false) => ?_) (fun (h : _ = true) => ?_) | refine And.intro (show regOk _ _ = true from by kernel_rfl) ?_ | refine And.intro (Sim.of_eq (congrArg (AV.int .i64) ?_)) trivial | refine ⟨Int.le_refl 0, _, r0, ?_⟩ | refine ⟨[.ro], .tup [.int .i64 _, .bool _], [none], .nbr rfl c, trivial, ?_⟩ | fail)
        all_goals clear c r0
        all_goals simp_all [wordsOf]
      · repeat' (first | refine And.intro (fun (h : _ = true) => ?_) (fun (h : _ = false) => ?_) | refine And.intro (fun (h : _ = false) => ?_) (fun (h : _ = true) => ?_) | refine And.intro (show regOk _ _ = true from by kernel_rfl) ?_ | refine And.intro (Sim.of_eq (congrArg (AV.int .i64) ?_)) trivial | refine ⟨Int.le_refl 0, _, r0, ?_⟩ | refine ⟨[.ro], .tup [.int .i64 _, .bool _], [none], .nbr rfl c, trivial, ?_⟩ | fail)
        all_goals clear c r0
        all_goals simp_all [wordsOf]
    · clear fx gx hx ox
      repeat' (first | refine And.intro (fun (h : _ = true) => ?_) (fun (h : _ = false) => ?_) | refine And.intro (fun (h : _ = false) => ?_) (fun (h : _ = true) => ?_) | refine And.intro (show regOk _ _ = true from by kernel_rfl) ?_ | refine And.intro (Sim.of_eq (congrArg (AV.int .i64) ?_)) trivial | fail)
      all_goals simp_all [wordsOf]
end Go.Proofs.VI
