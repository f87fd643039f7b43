/- Contracts of functions, and what they rest on: l08run. -/
import Derived.Test.YtkbdnmmnnkoenaaM16
set_option linter.unusedVariables false
set_option linter.unusedSimpArgs false
set_option maxRecDepth 10000
set_option maxHeartbeats 4000000
namespace Go.Proofs.VI
open Go
noncomputable def iterS : Nat → GMach → GMach
  | 0, m => m
  | k + 1, m => stepE (iterS k m)
noncomputable def runV (m : GMach) (n : Int) : GMach := bif inI n 0 2000 then iterS n.toNat m else m
theorem iterS_fit (m : GMach) (fm : GMach.fit m) : ∀ k, GMach.fit (iterS k m)
  | 0 => fm
  | k + 1 => stepE_fit _ (iterS_fit m fm k)
theorem iterS_right {m : GMach} (h : RightM m) : ∀ k, RightM (iterS k m)
  | 0 => h
  | k + 1 => by
    rcases stepE_cases (iterS k m) with e | e
    · show RightM (stepE _); rw [e]; exact iterS_right h k
    · exact e
theorem iterS_bad {m : GMach} (h : machE m = false) : ∀ k, iterS k m = m
  | 0 => rfl
  | k + 1 => by show stepE (iterS k m) = m; rw [iterS_bad h k, stepE, h]; rfl
theorem iterS_stop {m : GMach} {i : Nat} (h : (iterS i m).stop ≠ 0) : ∀ k, i ≤ k → iterS k m = iterS i m
  | 0, hk => by rw [Nat.le_zero.1 hk]
  | k + 1, hk => by
    by_cases e : i = k + 1
    · rw [e]
    · have ih := iterS_stop h k (by omega)
      show stepE (iterS k m) = _
      rw [ih, stepE, decide_eq_false h, Bool.and_false]; rfl
theorem impl_Run (m : GMach) (n : Int) (fm : GMach.fit m) : Con 18 [.agg (GMach.ro m), .int .i64 n] (.agg (GMach.ow (runV m n))) [none, none] := by
  have cC := impl_copyMach m fm
  refine con Try.func18 ?_
  refine ⟨[.ro], .agg (GMach.ow m), [none], cC, trivial, [.ro, .ro, .ro], .bool (inI n 0 2000), [none, none, none], impl_within n 0 2000, trivial, fun h => ?_, fun h => ?_⟩ <;> simp only [Bool.not_eq_true', Bool.not_eq_false'] at h
  · rw [runV, h]
    exact ⟨.refl _, trivial⟩
  · rw [runV, h, cond_true]
    have hn := inI_true.1 h
    refine ⟨{ i : Nat // (i : Int) ≤ n }, fun i => ⟨[(4, .ptr 0 0 0), (5, .ptr 1 0 0), (12, .int .i64 n), (13, .int .i64 i.1)], [(0, .box [.nils, .nils, .ff, .ff, .ff, .ff, .nils, .nils, .int .i64 0] []), (1, .box (GMach.ow (iterS i.1 m)) [])]⟩, fun i => n.toNat - i.1, ⟨0, hn.1⟩, ?_, ?_⟩
    · exact (by (repeat' (first | exact trivial | (refine And.intro (congrArg (AV.int .i64) (w64 ?_ ?_)) ?_; omega; omega) | refine And.intro rfl ?_ | refine And.intro (SimRows.refl _) ?_ | (refine And.intro (SimRows.of_eq ?_) ?_; (first | assumption | rfl)) | (refine And.intro (congrArg (AV.int .i64) ?_) ?_; (first | assumption | omega)) | fail)); done)
    · rintro ⟨i, hi⟩
      dsimp only
      refine ⟨fun h => ?_, fun h => ?_⟩ <;> simp only [decide_eq_true_eq, decide_eq_false_iff_not] at h
      · refine ⟨[.ro], .agg (GMach.ow (stepE (iterS i m))), [none], (by rw [mach_toRo]; exact impl_Step _ (iterS_fit m fm i)), ⟨GMach.noRo_ow _, trivial⟩, ?_⟩
        refine ⟨⟨i + 1, by omega⟩, by show n.toNat - (i + 1) < n.toNat - i; omega, ?_⟩
        exact (by (repeat' (first | exact trivial | (refine And.intro (congrArg (AV.int .i64) (w64 ?_ ?_)) ?_; omega; omega) | refine And.intro rfl ?_ | refine And.intro (SimRows.refl _) ?_ | (refine And.intro (SimRows.of_eq ?_) ?_; (first | assumption | rfl)) | (refine And.intro (congrArg (AV.int .i64) ?_) ?_; (first | assumption | omega)) | fail)); done)
      · have e : n.toNat = i := by omega
        rw [e]
        exact ⟨.refl _, trivial⟩
theorem stepE_right {m : GMach} (h : RightM m) (hs : m.stop = 0) : stepE m = stepV m := by
  have e : machE m = true := dec_true h
  rw [stepE, e, decide_eq_true hs]; rfl
theorem spec_Run (m : GMach) (n : Int) (fm : GMach.fit m) : Con 27 [.agg (GMach.ro m), .int .i64 n] (.agg (GMach.ow (runV m n))) [none, none] := by
  have cC := spec_l5Copy m fm
  have cM := spec_MachOk m fm
  have cI := spec_l1In n 0 2000
  cases hI : inI n 0 2000 with
  | false =>
    rw [hI] at cI
    rw [runV, hI, cond_false]
    refine con Try.func27 ?_
    refine ⟨[.ro], .agg (GMach.ow m), [none], cC, trivial, ?_⟩
    refine ⟨Unit, fun _ => ⟨[(1, .int .i64 n), (2, .ptr 2 0 0), (4, .ptr 0 0 0), (5, .ptr 1 0 0), (6, .int .i64 0)], [(0, .box [.nils, .nils, .ff, .ff, .ff, .ff, .nils, .nils, .int .i64 0] []), (1, .box (GMach.ow m) []), (2, .box (GMach.ro m) [])]⟩, fun _ => 0, (), ?_, ?_⟩
    · exact (by (repeat' (first | exact trivial | (refine And.intro (congrArg (AV.int .i64) (w64 ?_ ?_)) ?_; omega; omega) | refine And.intro rfl ?_ | refine And.intro (SimRows.refl _) ?_ | (refine And.intro (SimRows.of_eq ?_) ?_; (first | assumption | rfl)) | (refine And.intro (congrArg (AV.int .i64) ?_) ?_; (first | assumption | omega)) | fail)); done)
    · rintro ⟨⟩
      dsimp only
      exact ⟨[.ro, .ro, .ro], .ff, [none, none, none], .nbr rfl cI, trivial, .refl _, trivial⟩
  | true =>
    rw [hI] at cI
    rw [runV, hI, cond_true]
    have hn := inI_true.1 hI
    cases he : machE m with
    | false =>
      rw [he] at cM
      rw [iterS_bad he]
      refine con Try.func27 ?_
      refine ⟨[.ro], .agg (GMach.ow m), [none], cC, trivial, ?_⟩
      refine ⟨Unit, fun _ => ⟨[(1, .int .i64 n), (2, .ptr 2 0 0), (4, .ptr 0 0 0), (5, .ptr 1 0 0), (6, .int .i64 0)], [(0, .box [.nils, .nils, .ff, .ff, .ff, .ff, .nils, .nils, .int .i64 0] []), (1, .box (GMach.ow m) []), (2, .box (GMach.ro m) [])]⟩, fun _ => 0, (), ?_, ?_⟩
      · exact (by (repeat' (first | exact trivial | (refine And.intro (congrArg (AV.int .i64) (w64 ?_ ?_)) ?_; omega; omega) | refine And.intro rfl ?_ | refine And.intro (SimRows.refl _) ?_ | (refine And.intro (SimRows.of_eq ?_) ?_; (first | assumption | rfl)) | (refine And.intro (congrArg (AV.int .i64) ?_) ?_; (first | assumption | omega)) | fail)); done)
      · rintro ⟨⟩
        dsimp only
        exact ⟨[.ro, .ro, .ro], .tt, [none, none, none], .nbr rfl cI, trivial, fun _ => ⟨[.ro], .ff, [none], .nbr rfl cM, trivial, .refl _, trivial⟩, fun _ => ⟨.refl _, trivial⟩⟩
    | true =>
      rw [he] at cM
      have hm : RightM m := Classical.byContradiction fun hn => by rw [machE, dec_false hn] at he; cases he
      refine con Try.func27 ?_
      refine ⟨[.ro], .agg (GMach.ow m), [none], cC, trivial, ?_⟩
      refine ⟨{ i : Nat // (i : Int) ≤ n }, fun i => ⟨[(1, .int .i64 n), (2, .ptr 2 0 0), (4, .ptr 0 0 0), (5, .ptr 1 0 0), (6, .int .i64 i.1)], [(0, .box [.nils, .nils, .ff, .ff, .ff, .ff, .nils, .nils, .int .i64 0] []), (1, .box (GMach.ow (iterS i.1 m)) []), (2, .box (GMach.ro m) [])]⟩, fun i => n.toNat - i.1, ⟨0, hn.1⟩, ?_, ?_⟩
      · exact (by (repeat' (first | exact trivial | (refine And.intro (congrArg (AV.int .i64) (w64 ?_ ?_)) ?_; omega; omega) | refine And.intro rfl ?_ | refine And.intro (SimRows.refl _) ?_ | (refine And.intro (SimRows.of_eq ?_) ?_; (first | assumption | rfl)) | (refine And.intro (congrArg (AV.int .i64) ?_) ?_; (first | assumption | omega)) | fail)); done)
      · rintro ⟨i, hi⟩
        dsimp only
        refine ⟨[.ro, .ro, .ro], .tt, [none, none, none], .nbr rfl cI, trivial, fun h1 => ⟨[.ro], .tt, [none], .nbr rfl cM, trivial, fun h2 => ?_, fun h2 => ?_⟩, fun h1 => ?_⟩ <;> simp only [decide_eq_true_eq, decide_eq_false_iff_not] at *
        · refine ⟨[.mut], .tup [], [some (.pb (GMach.ow (stepV (iterS i m))))], spec_l7Step _ (iterS_right hm i), trivial, ?_⟩
          rw [← stepE_right (iterS_right hm i) h2]
          have e : IntKind.wrap .i64 ((i : Int) + 1) = ((i + 1 : Nat) : Int) := by rw [w64 (by omega) (by omega)]; omega
          refine ⟨⟨i + 1, by omega⟩, by show n.toNat - (i + 1) < n.toNat - i; omega, ?_⟩
          exact (by (repeat' (first | exact trivial | (refine And.intro (congrArg (AV.int .i64) (w64 ?_ ?_)) ?_; omega; omega) | refine And.intro rfl ?_ | refine And.intro (SimRows.refl _) ?_ | (refine And.intro (SimRows.of_eq ?_) ?_; (first | assumption | rfl)) | (refine And.intro (congrArg (AV.int .i64) ?_) ?_; (first | assumption | omega)) | fail)); done)
        · rw [iterS_stop h2 n.toNat (by omega)]
          exact ⟨.refl _, trivial⟩
        · have e : n.toNat = i := by omega
          rw [e]
          exact ⟨.refl _, trivial⟩
theorem iterS_cases (m : GMach) : ∀ k, iterS k m = m ∨ RightM (iterS k m)
  | 0 => .inl rfl
  | k + 1 => by
    rcases stepE_cases (iterS k m) with e | e
    · show stepE (iterS k m) = m ∨ RightM (stepE (iterS k m)); rw [e]; exact iterS_cases m k
    · exact .inr e
theorem runV_cases (m : GMach) (n : Int) : runV m n = m ∨ RightM (runV m n) := by
  unfold runV
  cases inI n 0 2000 with
  | false => exact .inl rfl
  | true => exact iterS_cases m _
theorem runV_fit (m : GMach) (n : Int) (fm : GMach.fit m) : GMach.fit (runV m n) := by
  rcases runV_cases m n with h | h
  · rw [h]; exact fm
  · exact h.fit
theorem runV_w (m : GMach) (n : Int) : GMach.tw (runV m n) ≤ GMach.tw m + 1000 := by
  rcases runV_cases m n with h | h
  · rw [h]; omega
  · have h1 := h.mem
    have h2 := h.r
    have h3 := h.inp
    have h4 := h.out
    show cntS GInt.w (runV m n).mem + cntS GInt.w (runV m n).r + cntS GInt.w (runV m n).inp + cntS GInt.w (runV m n).out ≤ _
    rw [cntI, cntI, cntI, cntI]
    omega
noncomputable def cntM (m : GMach) : Nat → Nat → Nat
  | 0, i => i
  | k + 1, i => if (iterS i m).stop = 0 then cntM m k (i + 1) else i
noncomputable def stepsV (m : GMach) (n : Int) : Int := bif inI n 0 2000 && machE m then (cntM m n.toNat 0 : Nat) else 0
theorem cntM_step {m : GMach} {k i : Nat} (h : (iterS i m).stop = 0) : cntM m (k + 1) i = cntM m k (i + 1) := by rw [cntM, if_pos h]
theorem cntM_stop {m : GMach} {k i : Nat} (h : ¬ (iterS i m).stop = 0) : cntM m (k + 1) i = i := by rw [cntM, if_neg h]
theorem impl_Steps (m : GMach) (n : Int) (fm : GMach.fit m) : Con 22 [.agg (GMach.ro m), .int .i64 n] (.int .i64 (stepsV m n)) [none, none] := by
  have cC := impl_copyMach m fm
  have cM := impl_MachOk m fm
  have cI := impl_within n 0 2000
  cases hI : inI n 0 2000 with
  | false =>
    rw [hI] at cI
    rw [stepsV, hI]
    refine con Try.func22 ?_
    exact ⟨[.ro, .ro, .ro], .ff, [none, none, none], .nbr rfl cI, trivial, .refl _, trivial⟩
  | true =>
    rw [hI] at cI
    have hn := inI_true.1 hI
    cases he : machE m with
    | false =>
      rw [he] at cM
      rw [stepsV, hI, he]
      refine con Try.func22 ?_
      exact ⟨[.ro, .ro, .ro], .tt, [none, none, none], .nbr rfl cI, trivial, [.ro], .ff, [none], .nbr rfl cM, trivial, .refl _, trivial⟩
    | true =>
      rw [he] at cM
      rw [stepsV, hI, he]
      show Con _ _ (.int .i64 (cntM m n.toNat 0 : Nat)) _
      refine con Try.func22 ?_
      refine ⟨[.ro, .ro, .ro], .tt, [none, none, none], .nbr rfl cI, trivial, [.ro], .tt, [none], .nbr rfl cM, trivial, [.ro], .agg (GMach.ow m), [none], cC, trivial, ?_⟩
      refine ⟨{ i : Nat // (i : Int) ≤ n ∧ cntM m n.toNat 0 = cntM m (n.toNat - i) i }, fun i => ⟨[(1, .int .i64 n), (5, .ptr 1 0 0), (6, .int .i64 i.1)], [(1, .box (GMach.ow (iterS i.1 m)) [])]⟩, fun i => n.toNat - i.1, ⟨0, hn.1, rfl⟩, ?_, ?_⟩
      · exact (by (repeat' (first | exact trivial | (refine And.intro (congrArg (AV.int .i64) (w64 ?_ ?_)) ?_; omega; omega) | refine And.intro rfl ?_ | refine And.intro (SimRows.refl _) ?_ | (refine And.intro (SimRows.of_eq ?_) ?_; (first | assumption | rfl)) | (refine And.intro (congrArg (AV.int .i64) ?_) ?_; (first | assumption | omega)) | fail)); done)
      · rintro ⟨i, hi, hc⟩
        dsimp only
        refine ⟨fun h1 => ⟨fun h2 => ?_, fun h2 => ?_⟩, fun h1 => ?_⟩ <;> simp only [decide_eq_true_eq, decide_eq_false_iff_not] at *
        · have e : IntKind.wrap .i64 ((i : Int) + 1) = ((i + 1 : Nat) : Int) := by rw [w64 (by omega) (by omega)]; omega
          have e2 : n.toNat - i = (n.toNat - (i + 1)) + 1 := by omega
          refine ⟨[.ro], .agg (GMach.ow (stepE (iterS i m))), [none], (by rw [mach_toRo]; exact impl_Step _ (iterS_fit m fm i)), ⟨GMach.noRo_ow _, trivial⟩, ?_⟩
          refine ⟨⟨i + 1, by omega, by rw [hc, e2, cntM_step h2]⟩, by show n.toNat - (i + 1) < n.toNat - i; omega, ?_⟩
          exact (by (repeat' (first | exact trivial | (refine And.intro (congrArg (AV.int .i64) (w64 ?_ ?_)) ?_; omega; omega) | refine And.intro rfl ?_ | refine And.intro (SimRows.refl _) ?_ | (refine And.intro (SimRows.of_eq ?_) ?_; (first | assumption | rfl)) | (refine And.intro (congrArg (AV.int .i64) ?_) ?_; (first | assumption | omega)) | fail)); done)
        · have e2 : n.toNat - i = (n.toNat - (i + 1)) + 1 := by omega
          rw [hc, e2, cntM_stop h2]
          exact ⟨.refl _, trivial⟩
        · have e2 : n.toNat - i = 0 := by omega
          rw [hc, e2]
          exact ⟨.refl _, trivial⟩
theorem spec_Steps (m : GMach) (n : Int) (fm : GMach.fit m) : Con 20 [.agg (GMach.ro m), .int .i64 n] (.int .i64 (stepsV m n)) [none, none] := by
  have cC := spec_l5Copy m fm
  have cM := spec_MachOk m fm
  have cI := spec_l1In n 0 2000
  cases hI : inI n 0 2000 with
  | false =>
    rw [hI] at cI
    rw [stepsV, hI]
    refine con Try.func20 ?_
    refine ⟨[.ro], .agg (GMach.ow m), [none], cC, trivial, ?_⟩
    refine ⟨Unit, fun _ => ⟨[(1, .int .i64 n), (2, .ptr 2 0 0), (5, .ptr 1 0 0), (6, .int .i64 0)], [(1, .box (GMach.ow m) []), (2, .box (GMach.ro m) [])]⟩, fun _ => 0, (), ?_, ?_⟩
    · exact (by (repeat' (first | exact trivial | (refine And.intro (congrArg (AV.int .i64) (w64 ?_ ?_)) ?_; omega; omega) | refine And.intro rfl ?_ | refine And.intro (SimRows.refl _) ?_ | (refine And.intro (SimRows.of_eq ?_) ?_; (first | assumption | rfl)) | (refine And.intro (congrArg (AV.int .i64) ?_) ?_; (first | assumption | omega)) | fail)); done)
    · rintro ⟨⟩
      dsimp only
      exact ⟨[.ro, .ro, .ro], .ff, [none, none, none], .nbr rfl cI, trivial, .refl _, trivial⟩
  | true =>
    rw [hI] at cI
    have hn := inI_true.1 hI
    cases he : machE m with
    | false =>
      rw [he] at cM
      rw [stepsV, hI, he]
      refine con Try.func20 ?_
      refine ⟨[.ro], .agg (GMach.ow m), [none], cC, trivial, ?_⟩
      refine ⟨Unit, fun _ => ⟨[(1, .int .i64 n), (2, .ptr 2 0 0), (5, .ptr 1 0 0), (6, .int .i64 0)], [(1, .box (GMach.ow m) []), (2, .box (GMach.ro m) [])]⟩, fun _ => 0, (), ?_, ?_⟩
      · exact (by (repeat' (first | exact trivial | (refine And.intro (congrArg (AV.int .i64) (w64 ?_ ?_)) ?_; omega; omega) | refine And.intro rfl ?_ | refine And.intro (SimRows.refl _) ?_ | (refine And.intro (SimRows.of_eq ?_) ?_; (first | assumption | rfl)) | (refine And.intro (congrArg (AV.int .i64) ?_) ?_; (first | assumption | omega)) | fail)); done)
      · rintro ⟨⟩
        dsimp only
        exact ⟨[.ro, .ro, .ro], .tt, [none, none, none], .nbr rfl cI, trivial, fun _ => ⟨[.ro], .ff, [none], .nbr rfl cM, trivial, .refl _, trivial⟩, fun _ => ⟨.refl _, trivial⟩⟩
    | true =>
      rw [he] at cM
      have hm : RightM m := Classical.byContradiction fun hn => by rw [machE, dec_false hn] at he; cases he
      rw [stepsV, hI, he]
      show Con _ _ (.int .i64 (cntM m n.toNat 0 : Nat)) _
      refine con Try.func20 ?_
      refine ⟨[.ro], .agg (GMach.ow m), [none], cC, trivial, ?_⟩
      refine ⟨{ i : Nat // (i : Int) ≤ n ∧ cntM m n.toNat 0 = cntM m (n.toNat - i) i }, fun i => ⟨[(1, .int .i64 n), (2, .ptr 2 0 0), (5, .ptr 1 0 0), (6, .int .i64 i.1)], [(1, .box (GMach.ow (iterS i.1 m)) []), (2, .box (GMach.ro m) [])]⟩, fun i => n.toNat - i.1, ⟨0, hn.1, rfl⟩, ?_, ?_⟩
      · exact (by (repeat' (first | exact trivial | (refine And.intro (congrArg (AV.int .i64) (w64 ?_ ?_)) ?_; omega; omega) | refine And.intro rfl ?_ | refine And.intro (SimRows.refl _) ?_ | (refine And.intro (SimRows.of_eq ?_) ?_; (first | assumption | rfl)) | (refine And.intro (congrArg (AV.int .i64) ?_) ?_; (first | assumption | omega)) | fail)); done)
      · rintro ⟨i, hi, hc⟩
        dsimp only
        refine ⟨[.ro, .ro, .ro], .tt, [none, none, none], .nbr rfl cI, trivial, fun h1 => ⟨[.ro], .tt, [none], .nbr rfl cM, trivial, fun h2 => ?_, fun h2 => ?_⟩, fun h1 => ?_⟩ <;> simp only [decide_eq_true_eq, decide_eq_false_iff_not] at *
        · refine ⟨[.mut], .tup [], [some (.pb (GMach.ow (stepV (iterS i m))))], spec_l7Step _ (iterS_right hm i), trivial, ?_⟩
          rw [← stepE_right (iterS_right hm i) h2]
          have e : IntKind.wrap .i64 ((i : Int) + 1) = ((i + 1 : Nat) : Int) := by rw [w64 (by omega) (by omega)]; omega
          have e2 : n.toNat - i = (n.toNat - (i + 1)) + 1 := by omega
          refine ⟨⟨i + 1, by omega, by rw [hc, e2, cntM_step h2]⟩, by show n.toNat - (i + 1) < n.toNat - i; omega, ?_⟩
          exact (by (repeat' (first | exact trivial | (refine And.intro (congrArg (AV.int .i64) (w64 ?_ ?_)) ?_; omega; omega) | refine And.intro rfl ?_ | refine And.intro (SimRows.refl _) ?_ | (refine And.intro (SimRows.of_eq ?_) ?_; (first | assumption | rfl)) | (refine And.intro (congrArg (AV.int .i64) ?_) ?_; (first | assumption | omega)) | fail)); done)
        · have e2 : n.toNat - i = (n.toNat - (i + 1)) + 1 := by omega
          rw [hc, e2, cntM_stop h2]
          exact ⟨.refl _, trivial⟩
        · have e2 : n.toNat - i = 0 := by omega
          rw [hc, e2]
          exact ⟨.refl _, trivial⟩
end Go.Proofs.VI
