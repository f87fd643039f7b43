/- Contracts of functions, and what they rest on: l08enc. -/
import Derived.Test.YtkbdnmmnnkoenaaM4
set_option linter.unusedVariables false
set_option linter.unusedSimpArgs false
set_option maxRecDepth 10000
set_option maxHeartbeats 4000000
namespace Go.Proofs.VI
open Go
def insI (x : GIns) : Bool := if (inI x.op 1 23 && (opdE x.src && opdE x.dst)) = false then false else if ((!inI x.op 1 6 && !zB x.src) || (!inI x.op 1 15 && !zB x.dst)) = true then false else if x.op = 15 ∨ x.op = 16 then inI x.n 0 7 else if inI x.op 17 21 = true then inI x.n (-128) 127 else if x.op = 23 then inI x.n 0 255 else decide (x.n = 0)
theorem impl_InsOk (x : GIns) : Con 32 [.agg (GIns.ro x)] (.bool (insI x)) [none] := by
  refine con Try.func32 ?_
  repeat' (first | refine And.intro (fun (h : _ = true) => ?_) (fun (h : _ = false) => ?_) | refine And.intro (fun (h : _ = false) => ?_) (fun (h : _ = true) => ?_) | refine And.intro (show regOk _ _ = true from by kernel_rfl) ?_ | refine And.intro (Sim.of_eq (congrArg AV.bool ?_)) trivial | refine ⟨[.ro, .ro, .ro], .bool _, [none, none, none], impl_within x.op 1 23, (by first | exact trivial | exact ⟨trivial, trivial⟩ | exact ⟨GByte.nro _, trivial⟩ | exact ⟨GExpr.noRo_ow _, trivial⟩ | exact ⟨GExpr.nro _, trivial⟩ | exact ⟨GInt.nro _, trivial⟩ | exact ⟨GString.nro _, trivial⟩), ?_⟩ | refine ⟨[.ro], .bool _, [none], impl_OpdOk x.src, (by first | exact trivial | exact ⟨trivial, trivial⟩ | exact ⟨GByte.nro _, trivial⟩ | exact ⟨GExpr.noRo_ow _, trivial⟩ | exact ⟨GExpr.nro _, trivial⟩ | exact ⟨GInt.nro _, trivial⟩ | exact ⟨GString.nro _, trivial⟩), ?_⟩ | refine ⟨[.ro], .bool _, [none], impl_OpdOk x.dst, (by first | exact trivial | exact ⟨trivial, trivial⟩ | exact ⟨GByte.nro _, trivial⟩ | exact ⟨GExpr.noRo_ow _, trivial⟩ | exact ⟨GExpr.nro _, trivial⟩ | exact ⟨GInt.nro _, trivial⟩ | exact ⟨GString.nro _, trivial⟩), ?_⟩ | refine ⟨[.ro], .bool _, [none], impl_hasSrc x.op, (by first | exact trivial | exact ⟨trivial, trivial⟩ | exact ⟨GByte.nro _, trivial⟩ | exact ⟨GExpr.noRo_ow _, trivial⟩ | exact ⟨GExpr.nro _, trivial⟩ | exact ⟨GInt.nro _, trivial⟩ | exact ⟨GString.nro _, trivial⟩), ?_⟩ | refine ⟨[.ro], .bool _, [none], impl_hasDst x.op, (by first | exact trivial | exact ⟨trivial, trivial⟩ | exact ⟨GByte.nro _, trivial⟩ | exact ⟨GExpr.noRo_ow _, trivial⟩ | exact ⟨GExpr.nro _, trivial⟩ | exact ⟨GInt.nro _, trivial⟩ | exact ⟨GString.nro _, trivial⟩), ?_⟩ | refine ⟨[.ro], .bool _, [none], impl_isReg' x.n, (by first | exact trivial | exact ⟨trivial, trivial⟩ | exact ⟨GByte.nro _, trivial⟩ | exact ⟨GExpr.noRo_ow _, trivial⟩ | exact ⟨GExpr.nro _, trivial⟩ | exact ⟨GInt.nro _, trivial⟩ | exact ⟨GString.nro _, trivial⟩), ?_⟩ | refine ⟨[.ro], .bool _, [none], impl_isBranch x.op, (by first | exact trivial | exact ⟨trivial, trivial⟩ | exact ⟨GByte.nro _, trivial⟩ | exact ⟨GExpr.noRo_ow _, trivial⟩ | exact ⟨GExpr.nro _, trivial⟩ | exact ⟨GInt.nro _, trivial⟩ | exact ⟨GString.nro _, trivial⟩), ?_⟩ | refine ⟨[.ro, .ro, .ro], .bool _, [none, none, none], impl_within x.n (-128) 127, (by first | exact trivial | exact ⟨trivial, trivial⟩ | exact ⟨GByte.nro _, trivial⟩ | exact ⟨GExpr.noRo_ow _, trivial⟩ | exact ⟨GExpr.nro _, trivial⟩ | exact ⟨GInt.nro _, trivial⟩ | exact ⟨GString.nro _, trivial⟩), ?_⟩ | refine ⟨[.ro, .ro, .ro], .bool _, [none, none, none], impl_within x.n 0 255, (by first | exact trivial | exact ⟨trivial, trivial⟩ | exact ⟨GByte.nro _, trivial⟩ | exact ⟨GExpr.noRo_ow _, trivial⟩ | exact ⟨GExpr.nro _, trivial⟩ | exact ⟨GInt.nro _, trivial⟩ | exact ⟨GString.nro _, trivial⟩), ?_⟩ | fail)
  all_goals simp_all [insI, zB]
def codeV (x : GIns) : Int :=
  let w := baseV x.op
  let w := if x.op = 15 then bitsI .or .i64 w (shlI .i64 x.n 6) else if x.op = 16 then bitsI .or .i64 w x.n else if (inI x.op 17 21 || decide (x.op = 23)) = true then bitsI .or .i64 w (bitsI .and .i64 x.n 255) else w
  let w := if inI x.op 1 6 = true then bitsI .or .i64 w (shlI .i64 (IntKind.wrap .i64 (IntKind.wrap .i64 (8 * x.src.mode) + x.src.reg)) 6) else w
  if inI x.op 1 15 = true then bitsI .or .i64 w (IntKind.wrap .i64 (IntKind.wrap .i64 (8 * x.dst.mode) + x.dst.reg)) else w
theorem impl_codeWord (x : GIns) (h0 : 0 ≤ x.op) (h1 : x.op < 24) : Con 33 [.agg (GIns.ro x)] (.int .i64 (codeV x)) [none] := by
  refine con Try.func33 ?_
  repeat' (first | refine And.intro (fun (h : _ = true) => ?_) (fun (h : _ = false) => ?_) | refine And.intro (fun (h : _ = false) => ?_) (fun (h : _ = true) => ?_) | refine And.intro (show regOk _ _ = true from by kernel_rfl) ?_ | refine And.intro (Sim.of_eq (congrArg (AV.int .i64) ?_)) trivial | refine ⟨[.ro], .int .i64 _, [none], impl_baseOf x.op h0 h1, (by first | exact trivial | exact ⟨trivial, trivial⟩ | exact ⟨GByte.nro _, trivial⟩ | exact ⟨GExpr.noRo_ow _, trivial⟩ | exact ⟨GExpr.nro _, trivial⟩ | exact ⟨GInt.nro _, trivial⟩ | exact ⟨GString.nro _, trivial⟩), ?_⟩ | refine ⟨[.ro], .bool _, [none], impl_hasSrc x.op, (by first | exact trivial | exact ⟨trivial, trivial⟩ | exact ⟨GByte.nro _, trivial⟩ | exact ⟨GExpr.noRo_ow _, trivial⟩ | exact ⟨GExpr.nro _, trivial⟩ | exact ⟨GInt.nro _, trivial⟩ | exact ⟨GString.nro _, trivial⟩), ?_⟩ | refine ⟨[.ro], .bool _, [none], impl_hasDst x.op, (by first | exact trivial | exact ⟨trivial, trivial⟩ | exact ⟨GByte.nro _, trivial⟩ | exact ⟨GExpr.noRo_ow _, trivial⟩ | exact ⟨GExpr.nro _, trivial⟩ | exact ⟨GInt.nro _, trivial⟩ | exact ⟨GString.nro _, trivial⟩), ?_⟩ | refine ⟨[.ro], .bool _, [none], impl_isBranch x.op, (by first | exact trivial | exact ⟨trivial, trivial⟩ | exact ⟨GByte.nro _, trivial⟩ | exact ⟨GExpr.noRo_ow _, trivial⟩ | exact ⟨GExpr.nro _, trivial⟩ | exact ⟨GInt.nro _, trivial⟩ | exact ⟨GString.nro _, trivial⟩), ?_⟩ | refine And.intro (show (0 : Int) ≤ 6 from by decide) ?_ | fail)
  all_goals simp_all [codeV]
def encV (x : GIns) : List Int := codeV x :: ((if srcX x = true then [x.src.x] else []) ++ if dstX x = true then [x.dst.x] else [])
theorem impl_Encode (x : GIns) (h0 : 0 ≤ x.op) (h1 : x.op < 24) (hi : insI x = true) : Con 12 [.agg (GIns.ro x)] (.ow 1 (GInt.ows (encV x))) [none] := by
  have cI := impl_InsOk x
  rw [hi] at cI
  have cC := impl_codeWord x h0 h1
  refine con Try.func12 ?_
  repeat' (first | (exfalso; simp at h; done) | refine And.intro (fun (h : _ = true) => ?_) (fun (h : _ = false) => ?_) | refine And.intro (fun (h : _ = false) => ?_) (fun (h : _ = true) => ?_) | refine And.intro (show regOk _ _ = true from by kernel_rfl) ?_ | refine ⟨[.ro], .bool true, [none], cI, trivial, ?_⟩ | refine ⟨[.ro], .int .i64 (codeV x), [none], cC, trivial, ?_⟩ | refine ⟨[.ro], .bool _, [none], impl_hasSrc x.op, (by first | exact trivial | exact ⟨trivial, trivial⟩ | exact ⟨GByte.nro _, trivial⟩ | exact ⟨GExpr.noRo_ow _, trivial⟩ | exact ⟨GExpr.nro _, trivial⟩ | exact ⟨GInt.nro _, trivial⟩ | exact ⟨GString.nro _, trivial⟩), ?_⟩ | refine ⟨[.ro], .bool _, [none], impl_hasDst x.op, (by first | exact trivial | exact ⟨trivial, trivial⟩ | exact ⟨GByte.nro _, trivial⟩ | exact ⟨GExpr.noRo_ow _, trivial⟩ | exact ⟨GExpr.nro _, trivial⟩ | exact ⟨GInt.nro _, trivial⟩ | exact ⟨GString.nro _, trivial⟩), ?_⟩ | refine ⟨[.ro], .bool _, [none], impl_HasX x.src, (by first | exact trivial | exact ⟨trivial, trivial⟩ | exact ⟨GByte.nro _, trivial⟩ | exact ⟨GExpr.noRo_ow _, trivial⟩ | exact ⟨GExpr.nro _, trivial⟩ | exact ⟨GInt.nro _, trivial⟩ | exact ⟨GString.nro _, trivial⟩), ?_⟩ | refine ⟨[.ro], .bool _, [none], impl_HasX x.dst, (by first | exact trivial | exact ⟨trivial, trivial⟩ | exact ⟨GByte.nro _, trivial⟩ | exact ⟨GExpr.noRo_ow _, trivial⟩ | exact ⟨GExpr.nro _, trivial⟩ | exact ⟨GInt.nro _, trivial⟩ | exact ⟨GString.nro _, trivial⟩), ?_⟩ | refine ⟨trivial, Nat.le_of_ble_eq_true rfl, ⟨⟨trivial, trivial⟩, trivial⟩, ?_⟩ | refine And.intro (Sim.of_eq (congrArg (AV.ow 1) ?_)) trivial | fail)
  all_goals simp_all [encV, srcX, dstX, GInt.ro]
def sixV (o : GOpd) : Int := IntKind.wrap .i64 (IntKind.wrap .i64 (o.mode * 8) + o.reg)
def codeS (x : GIns) : Int :=
  if x.op ≤ 6 then IntKind.wrap .i64 (IntKind.wrap .i64 (baseV x.op + IntKind.wrap .i64 (sixV x.src * 64)) + sixV x.dst)
  else if x.op ≤ 14 then IntKind.wrap .i64 (baseV x.op + sixV x.dst)
  else if x.op = 15 then IntKind.wrap .i64 (IntKind.wrap .i64 (baseV x.op + IntKind.wrap .i64 (x.n * 64)) + sixV x.dst)
  else if (decide (x.op = 16) || decide (x.op = 23)) = true then IntKind.wrap .i64 (baseV x.op + x.n)
  else if x.op ≤ 21 then IntKind.wrap .i64 (baseV x.op + bitsI .and .i64 x.n 255) else baseV x.op
def encS (x : GIns) : List Int := if insE x = true then codeS x :: ((if (decide (x.op ≤ 6) && hasX x.src) = true then [x.src.x] else []) ++ if (decide (x.op ≤ 15) && hasX x.dst) = true then [x.dst.x] else []) else []
theorem insE_facts {x : GIns} (h : insE x = true) : (1 ≤ x.op ∧ x.op ≤ 23) ∧ (x.op ≤ 6 → opdE x.src = true) ∧ (x.op ≤ 15 → opdE x.dst = true) ∧ (x.op = 15 ∨ x.op = 16 → 0 ≤ x.n ∧ x.n ≤ 7) ∧ (x.op = 23 → 0 ≤ x.n ∧ x.n ≤ 255) := by
  unfold insE at h
  split at h
  · rename_i g
    simp only [Bool.and_eq_true] at h
    have := inI_true.1 g
    exact ⟨by omega, fun _ => h.1, fun _ => h.2.1, fun _ => by omega, fun _ => by omega⟩
  split at h
  · rename_i g
    simp only [Bool.and_eq_true] at h
    have := inI_true.1 g
    exact ⟨by omega, fun _ => by omega, fun _ => h.2.1, fun _ => by omega, fun _ => by omega⟩
  split at h
  · rename_i g
    simp only [Bool.and_eq_true] at h
    have := inI_true.1 h.2.2
    exact ⟨by omega, fun _ => by omega, fun _ => h.2.1, fun _ => by omega, fun _ => by omega⟩
  split at h
  · cases h
  split at h
  · cases h
  split at h
  · rename_i g
    have := inI_true.1 h
    exact ⟨by omega, fun _ => by omega, fun _ => by omega, fun _ => by omega, fun _ => by omega⟩
  split at h
  · rename_i g
    have := inI_true.1 g
    exact ⟨by omega, fun _ => by omega, fun _ => by omega, fun _ => by omega, fun _ => by omega⟩
  split at h
  · rename_i g
    exact ⟨by omega, fun _ => by omega, fun _ => by omega, fun _ => by omega, fun _ => by omega⟩
  split at h
  · rename_i g
    have := inI_true.1 h
    exact ⟨by omega, fun _ => by omega, fun _ => by omega, fun _ => by omega, fun _ => by omega⟩
  · cases h
theorem opdE_facts {o : GOpd} (h : opdE o = true) : (0 ≤ o.mode ∧ o.mode ≤ 7) ∧ (0 ≤ o.reg ∧ o.reg ≤ 7) ∧ (0 ≤ o.x ∧ o.x ≤ 65535) := by
  simp only [opdE, Bool.and_eq_true] at h
  exact ⟨inI_true.1 h.1, inI_true.1 h.2.1, inI_true.1 h.2.2.1⟩
theorem baseV_in (op : Int) (h0 : 0 ≤ op) (h1 : op < 24) : 0 ≤ baseV op ∧ baseV op ≤ 57344 := by
  obtain ⟨k, rfl⟩ : ∃ k : Nat, op = k := ⟨op.toNat, by omega⟩
  have hk : k < 24 := by omega
  have : ∀ k < 24, 0 ≤ baseV ((k : Nat) : Int) ∧ baseV ((k : Nat) : Int) ≤ 57344 := by decide
  exact this k hk
theorem sixV_in {o : GOpd} (h : opdE o = true) : 0 ≤ sixV o ∧ sixV o ≤ 63 := by
  obtain ⟨h1, h2, _⟩ := opdE_facts h
  have e : IntKind.wrap .i64 (o.mode * 8) = o.mode * 8 := w64 (by omega) (by omega)
  rw [sixV, e, w64 (by omega) (by omega)]
  omega
theorem codeS_in {x : GIns} (h : insE x = true) : 0 ≤ codeS x ∧ codeS x ≤ 65535 := by
  obtain ⟨h1, h2, h3, h4, h5⟩ := insE_facts h
  have hb := baseV_in x.op (by omega) (by omega)
  unfold codeS
  split
  · rename_i g
    have := sixV_in (h2 g)
    have := sixV_in (h3 (by omega))
    rw [w64 (x := sixV x.src * 64) (by omega) (by omega), w64 (x := baseV x.op + sixV x.src * 64) (by omega) (by omega), w64 (by omega) (by omega)]
    omega
  split
  · have := sixV_in (h3 (by omega))
    rw [w64 (by omega) (by omega)]
    omega
  split
  · rename_i g
    have := sixV_in (h3 (by omega))
    have := h4 (.inl g)
    rw [w64 (x := x.n * 64) (by omega) (by omega), w64 (x := baseV x.op + x.n * 64) (by omega) (by omega), w64 (by omega) (by omega)]
    omega
  split
  · rename_i g
    have : 0 ≤ x.n ∧ x.n ≤ 255 := by
      simp only [Bool.or_eq_true, decide_eq_true_eq] at g
      rcases g with g | g
      · have := h4 (.inr g); omega
      · exact h5 g
    rw [w64 (by omega) (by omega)]
    omega
  split
  · have : 0 ≤ bitsI .and .i64 x.n 255 ∧ bitsI .and .i64 x.n 255 ≤ 255 := by rw [and_255]; omega
    rw [w64 (by omega) (by omega)]
    omega
  · omega
theorem encS_words (x : GIns) : wordsP (encS x) ∧ (encS x).length ≤ 3 := by
  unfold encS
  split
  · rename_i h
    obtain ⟨h1, h2, h3, h4, h5⟩ := insE_facts h
    refine ⟨fun y hy => ?_, ?_⟩
    · rcases List.mem_cons.1 hy with rfl | hy
      · exact codeS_in h
      rcases List.mem_append.1 hy with hy | hy
      · split at hy
        · rename_i g
          simp only [Bool.and_eq_true, decide_eq_true_eq] at g
          rw [List.mem_singleton.1 hy]
          exact (opdE_facts (h2 g.1)).2.2
        · cases hy
      · split at hy
        · rename_i g
          simp only [Bool.and_eq_true, decide_eq_true_eq] at g
          rw [List.mem_singleton.1 hy]
          exact (opdE_facts (h3 g.1)).2.2
        · cases hy
    · simp only [List.length_cons, List.length_append]
      split <;> split <;> simp
  · exact ⟨fun y hy => (by cases hy), by decide⟩
theorem spec_l4Six (o : GOpd) : Con 113 [.agg (GOpd.ro o)] (.int .i64 (sixV o)) [none] := by
  refine con Try.func113 ?_
  exact ⟨.refl _, trivial⟩
theorem spec_Encode (x : GIns) : Con 101 [.agg (GIns.ro x)] (.ow 1 (GInt.ows (encS x))) [none] := by
  have cI := spec_InsOk x
  cases hi : insE x with
  | false =>
    rw [hi] at cI
    have e : encS x = [] := by rw [encS, if_neg (by rw [hi]; decide)]
    rw [e]
    refine con Try.func101 ?_
    repeat' (first | (exfalso; simp at h; done) | refine And.intro (fun (h : _ = true) => ?_) (fun (h : _ = false) => ?_) | refine And.intro (fun (h : _ = false) => ?_) (fun (h : _ = true) => ?_) | refine And.intro (show regOk _ _ = true from by kernel_rfl) ?_ | refine ⟨[.ro], .bool false, [none], cI, trivial, ?_⟩ | refine And.intro (Sim.of_eq (congrArg (AV.ow 1) ?_)) trivial | fail)
    all_goals rfl
  | true =>
    rw [hi] at cI
    obtain ⟨⟨h1, h2⟩, _⟩ := insE_facts hi
    refine con Try.func101 ?_
    repeat' (first | (exfalso; simp at h; done) | refine And.intro (fun (h : _ = true) => ?_) (fun (h : _ = false) => ?_) | refine And.intro (fun (h : _ = false) => ?_) (fun (h : _ = true) => ?_) | refine And.intro (show regOk _ _ = true from by kernel_rfl) ?_ | refine ⟨[.ro], .bool true, [none], cI, trivial, ?_⟩ | refine ⟨[.ro], .int .i64 _, [none], spec_l4Base x.op (by omega) (by omega), (by first | exact trivial | exact ⟨trivial, trivial⟩ | exact ⟨GByte.nro _, trivial⟩ | exact ⟨GExpr.noRo_ow _, trivial⟩ | exact ⟨GExpr.nro _, trivial⟩ | exact ⟨GInt.nro _, trivial⟩ | exact ⟨GString.nro _, trivial⟩), ?_⟩ | refine ⟨[.ro], .int .i64 _, [none], spec_l4Six x.src, (by first | exact trivial | exact ⟨trivial, trivial⟩ | exact ⟨GByte.nro _, trivial⟩ | exact ⟨GExpr.noRo_ow _, trivial⟩ | exact ⟨GExpr.nro _, trivial⟩ | exact ⟨GInt.nro _, trivial⟩ | exact ⟨GString.nro _, trivial⟩), ?_⟩ | refine ⟨[.ro], .int .i64 _, [none], spec_l4Six x.dst, (by first | exact trivial | exact ⟨trivial, trivial⟩ | exact ⟨GByte.nro _, trivial⟩ | exact ⟨GExpr.noRo_ow _, trivial⟩ | exact ⟨GExpr.nro _, trivial⟩ | exact ⟨GInt.nro _, trivial⟩ | exact ⟨GString.nro _, trivial⟩), ?_⟩ | refine ⟨[.ro], .bool _, [none], spec_HasX x.src, (by first | exact trivial | exact ⟨trivial, trivial⟩ | exact ⟨GByte.nro _, trivial⟩ | exact ⟨GExpr.noRo_ow _, trivial⟩ | exact ⟨GExpr.nro _, trivial⟩ | exact ⟨GInt.nro _, trivial⟩ | exact ⟨GString.nro _, trivial⟩), ?_⟩ | refine ⟨[.ro], .bool _, [none], spec_HasX x.dst, (by first | exact trivial | exact ⟨trivial, trivial⟩ | exact ⟨GByte.nro _, trivial⟩ | exact ⟨GExpr.noRo_ow _, trivial⟩ | exact ⟨GExpr.nro _, trivial⟩ | exact ⟨GInt.nro _, trivial⟩ | exact ⟨GString.nro _, trivial⟩), ?_⟩ | refine ⟨trivial, Nat.le_of_ble_eq_true rfl, ⟨⟨trivial, trivial⟩, trivial⟩, ?_⟩ | refine And.intro (Sim.of_eq (congrArg (AV.ow 1) ?_)) trivial | fail)
    all_goals clear cI
    all_goals (have ho : ¬ (x.op ≤ 6) ∨ x.op ≤ 15 := by omega)
    all_goals simp_all [encS, codeS, GInt.ro]
    all_goals omega
end Go.Proofs.VI
