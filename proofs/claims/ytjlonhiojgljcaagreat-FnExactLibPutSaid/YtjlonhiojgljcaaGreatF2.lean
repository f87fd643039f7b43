/- Contracts of functions, and what they rest on: l11con. -/
import Derived.Test.YtjlonhiojgljcaaGreatF1
set_option linter.unusedVariables false
set_option linter.unusedSimpArgs false
set_option maxRecDepth 10000
set_option maxHeartbeats 4000000
namespace Go.Proofs.VI
open Go
theorem simNr (k n : Int) (s : ByteArray) : Sim (.agg [.int .i64 k, .int .i64 n, .str s, .nils]) (.agg (GExpr.ro (.mk k n s []))) := .agg (.cons (.refl _) (.cons (.refl _) (.cons (.refl _) (.cons (.nilr 4) (.refl _)))))
theorem simLr (k n : Int) (s : ByteArray) (l : List GExpr) : Sim (.agg [.int .i64 k, .int .i64 n, .str s, .ow 4 (l.map GExpr.ro)]) (.agg (GExpr.ro (.mk k n s l))) := by
  have h := Sim.frz (.agg [.int .i64 k, .int .i64 n, .str s, .ow 4 (l.map GExpr.ro)])
  have e : toRoRows (l.map GExpr.ro) = GExpr.ros l := by rw [← GExpr.ros_eq, GExpr.ror]
  simp only [toRo, toRoL, e] at h
  exact h
theorem simT (k n : Int) (s : ByteArray) (a b : GExpr) : Sim (.agg [.int .i64 k, .int .i64 n, .str s, .ow 4 [GExpr.ro a, GExpr.ro b]]) (.agg (GExpr.ro (.mk k n s [a, b]))) := simLr k n s [a, b]
theorem simOwRo (e : GExpr) : Sim (.agg (GExpr.ow e)) (.agg (GExpr.ro e)) := by
  have h := Sim.frz (.agg (GExpr.ow e))
  simp only [toRo, GExpr.toRo_ow] at h
  exact h
def gI (x : Option Int) : AV := match x with | some n => .tup [.int .i64 n, .bool true] | none => .tup [.int .i64 0, .bool false]
theorem impl_number (n : Int) : Con 287 [.int .i64 n] (.agg (GExpr.ro (numE n))) [none] := by
  refine con Tryz.func287 ?_
  exact ⟨[.ro], .int .i64 (wr16 n), [none], impl_Wrap n, trivial, simNr _ _ _, trivial⟩
theorem spec_l10Num (n : Int) : Con 181 [.int .i64 n] (.agg (GExpr.ro (numE n))) [none] := by
  refine con Tryz.func181 ?_
  exact ⟨[.ro], .int .i64 (wr16 n), [none], spec_Wrap n, trivial, simNr _ _ _, trivial⟩
theorem impl_two (k : Int) (a b : GExpr) : Con 310 [.int .i64 k, .agg (GExpr.ro a), .agg (GExpr.ro b)] (.agg (GExpr.ro (twoE k a b))) [none, none, none] := by
  refine con Tryz.func310 ?_
  exact ⟨simT _ _ _ a b, trivial⟩
theorem impl_compute (k a b : Int) : Con 271 [.int .i64 k, .int .i64 a, .int .i64 b] (gI (compE k a b)) [none, none, none] := by
  refine con Tryz.func271 ?_
  by_cases hb : b = 0
  · repeat' (first | refine And.intro (fun (h : _ = true) => ?_) (fun (h : _ = false) => ?_) | refine And.intro (fun (h : _ = false) => ?_) (fun (h : _ = true) => ?_) | refine And.intro (show regOk _ _ = true from by kernel_rfl) ?_ | refine And.intro (Sim.nb ?_) trivial | refine ⟨[.ro], .int .i64 _, [none], impl_Wrap _, (by first | exact trivial | exact ⟨trivial, trivial⟩ | exact ⟨GByte.nro _, trivial⟩ | exact ⟨GExpr.noRo_ow _, trivial⟩ | exact ⟨GExpr.nro _, trivial⟩ | exact ⟨GInt.nro _, trivial⟩ | exact ⟨GString.nro _, trivial⟩), ?_⟩ | fail)
    all_goals simp_all [compE, gI, nb, nbAs, nbA, nbC, tuple, wr16_wrap]
  · repeat' (first | refine And.intro (fun (h : _ = true) => ?_) (fun (h : _ = false) => ?_) | refine And.intro (fun (h : _ = false) => ?_) (fun (h : _ = true) => ?_) | refine And.intro (show regOk _ _ = true from by kernel_rfl) ?_ | refine And.intro (Sim.nb ?_) trivial | refine ⟨[.ro], .int .i64 _, [none], impl_Wrap _, (by first | exact trivial | exact ⟨trivial, trivial⟩ | exact ⟨GByte.nro _, trivial⟩ | exact ⟨GExpr.noRo_ow _, trivial⟩ | exact ⟨GExpr.nro _, trivial⟩ | exact ⟨GInt.nro _, trivial⟩ | exact ⟨GString.nro _, trivial⟩), ?_⟩ | refine ⟨hb, ?_⟩ | fail)
    all_goals simp_all [compE, gI, nb, nbAs, nbA, nbC, tuple, wr16_wrap]
theorem spec_l11Two (k a b : Int) : Con 270 [.int .i64 k, .int .i64 a, .int .i64 b] (gI (compE k a b)) [none, none, none] := by
  refine con Tryz.func270 ?_
  by_cases hb : b = 0
  · repeat' (first | refine And.intro (fun (h : _ = true) => ?_) (fun (h : _ = false) => ?_) | refine And.intro (fun (h : _ = false) => ?_) (fun (h : _ = true) => ?_) | refine And.intro (show regOk _ _ = true from by kernel_rfl) ?_ | refine And.intro (Sim.nb ?_) trivial | refine ⟨[.ro], .int .i64 _, [none], spec_Wrap _, (by first | exact trivial | exact ⟨trivial, trivial⟩ | exact ⟨GByte.nro _, trivial⟩ | exact ⟨GExpr.noRo_ow _, trivial⟩ | exact ⟨GExpr.nro _, trivial⟩ | exact ⟨GInt.nro _, trivial⟩ | exact ⟨GString.nro _, trivial⟩), ?_⟩ | fail)
    all_goals simp_all [compE, gI, nb, nbAs, nbA, nbC, tuple, wr16_wrap]
  · repeat' (first | refine And.intro (fun (h : _ = true) => ?_) (fun (h : _ = false) => ?_) | refine And.intro (fun (h : _ = false) => ?_) (fun (h : _ = true) => ?_) | refine And.intro (show regOk _ _ = true from by kernel_rfl) ?_ | refine And.intro (Sim.nb ?_) trivial | refine ⟨[.ro], .int .i64 _, [none], spec_Wrap _, (by first | exact trivial | exact ⟨trivial, trivial⟩ | exact ⟨GByte.nro _, trivial⟩ | exact ⟨GExpr.noRo_ow _, trivial⟩ | exact ⟨GExpr.nro _, trivial⟩ | exact ⟨GInt.nro _, trivial⟩ | exact ⟨GString.nro _, trivial⟩), ?_⟩ | refine ⟨hb, ?_⟩ | fail)
    all_goals simp_all [compE, gI, nb, nbAs, nbA, nbC, tuple, wr16_wrap]
theorem spec_l11Part {h : Nat} (e : GExpr) (x : OkX h e) : Con 296 [.agg (GExpr.ro e)] (.tup [.agg (GExpr.ro (partE e).1), .int .i64 (partE e).2]) [none] := by
  refine con Tryz.func296 ?_
  rcases part_cases x with ⟨m, a, n, rfl, rfl, _, _, hx, hp⟩ | ⟨hp, hk | ⟨a, b, rfl, hb⟩⟩
  · rw [hp]
    have r0 : (GExpr.ros [a, .mk 1 n ⟨#[]⟩ []])[0]? = some (GExpr.ro a) := ros_get [a, .mk 1 n ⟨#[]⟩ []] 0 (by simp)
    have r1 : (GExpr.ros [a, .mk 1 n ⟨#[]⟩ []])[1]? = some (GExpr.ro (.mk 1 n ⟨#[]⟩ [])) := ros_get [a, .mk 1 n ⟨#[]⟩ []] 1 (by simp)
    repeat' (first | refine And.intro (fun (h : _ = true) => ?_) (fun (h : _ = false) => ?_) | refine And.intro (fun (h : _ = false) => ?_) (fun (h : _ = true) => ?_) | refine And.intro (show regOk _ _ = true from by kernel_rfl) ?_ | refine And.intro (Sim.of_eq ?_) trivial | refine ⟨Int.le_refl 0, _, r0, ?_⟩ | refine ⟨(show (0 : Int) ≤ 1 from by decide), _, r1, ?_⟩ | fail)
    all_goals first | rfl | (exfalso; simp_all [k_mk]; done)
  · rw [hp]
    repeat' (first | refine And.intro (fun (h : _ = true) => ?_) (fun (h : _ = false) => ?_) | refine And.intro (fun (h : _ = false) => ?_) (fun (h : _ = true) => ?_) | refine And.intro (show regOk _ _ = true from by kernel_rfl) ?_ | refine And.intro (Sim.of_eq ?_) trivial | fail)
    all_goals first | rfl | (exfalso; simp_all [k_mk]; done)
  · rw [hp]
    have r1 : (GExpr.ros [a, b])[1]? = some (GExpr.ro (b)) := ros_get [a, b] 1 (by simp)
    repeat' (first | refine And.intro (fun (h : _ = true) => ?_) (fun (h : _ = false) => ?_) | refine And.intro (fun (h : _ = false) => ?_) (fun (h : _ = true) => ?_) | refine And.intro (show regOk _ _ = true from by kernel_rfl) ?_ | refine And.intro (Sim.of_eq ?_) trivial | refine ⟨(show (0 : Int) ≤ 1 from by decide), _, r1, ?_⟩ | fail)
    all_goals first | rfl | (exfalso; simp_all [k_mk]; done)
def sectE (e : GExpr) : AV := if (partE e).1.k = 11 then .tup [.int .i64 (partE e).1.n, .int .i64 (partE e).2, .bool true] else .tup [.int .i64 0, .int .i64 0, .bool false]
theorem impl_inSect {h : Nat} (e : GExpr) (x : OkX h e) : Con 312 [.agg (GExpr.ro e)] (sectE e) [none] := by
  refine con Tryz.func312 ?_
  rcases part_cases x with ⟨m, a, n, rfl, rfl, _, _, hx, hp⟩ | ⟨hp, hk | ⟨a, b, rfl, hb⟩⟩
  · have r0 : (GExpr.ros [a, .mk 1 n ⟨#[]⟩ []])[0]? = some (GExpr.ro a) := ros_get [a, .mk 1 n ⟨#[]⟩ []] 0 (by simp)
    have r1 : (GExpr.ros [a, .mk 1 n ⟨#[]⟩ []])[1]? = some (GExpr.ro (.mk 1 n ⟨#[]⟩ [])) := ros_get [a, .mk 1 n ⟨#[]⟩ []] 1 (by simp)
    repeat' (first | refine And.intro (fun (h : _ = true) => ?_) (fun (h : _ = false) => ?_) | refine And.intro (fun (h : _ = false) => ?_) (fun (h : _ = true) => ?_) | refine And.intro (show regOk _ _ = true from by kernel_rfl) ?_ | refine And.intro (Sim.nb ?_) trivial | refine ⟨Int.le_refl 0, _, r0, ?_⟩ | refine ⟨(show (0 : Int) ≤ 1 from by decide), _, r1, ?_⟩ | fail)
    all_goals clear r0 r1 x
    all_goals simp_all [sectE, k_mk, n_mk, nb, nbAs, nbA, nbC, tuple]
  · repeat' (first | refine And.intro (fun (h : _ = true) => ?_) (fun (h : _ = false) => ?_) | refine And.intro (fun (h : _ = false) => ?_) (fun (h : _ = true) => ?_) | refine And.intro (show regOk _ _ = true from by kernel_rfl) ?_ | refine And.intro (Sim.nb ?_) trivial | fail)
    all_goals clear x
    all_goals simp_all [sectE, nb, nbAs, nbA, nbC, tuple]
  · have r0 : (GExpr.ros [a, b])[0]? = some (GExpr.ro a) := ros_get [a, b] 0 (by simp)
    have r1 : (GExpr.ros [a, b])[1]? = some (GExpr.ro (b)) := ros_get [a, b] 1 (by simp)
    repeat' (first | refine And.intro (fun (h : _ = true) => ?_) (fun (h : _ = false) => ?_) | refine And.intro (fun (h : _ = false) => ?_) (fun (h : _ = true) => ?_) | refine And.intro (show regOk _ _ = true from by kernel_rfl) ?_ | refine And.intro (Sim.nb ?_) trivial | refine ⟨Int.le_refl 0, _, r0, ?_⟩ | refine ⟨(show (0 : Int) ≤ 1 from by decide), _, r1, ?_⟩ | fail)
    all_goals clear r0 r1 x
    all_goals simp_all [sectE, k_mk, n_mk, nb, nbAs, nbA, nbC, tuple]
theorem spec_l11Add (e : GExpr) (n : Int) : Con 297 [.agg (GExpr.ro e), .int .i64 n] (.agg (GExpr.ro (addE e n))) [none, none] := by
  refine con Tryz.func297 ?_
  rw [addE]
  refine ⟨[.ro], .int .i64 (wr16 n), [none], spec_Wrap n, trivial, fun h => ?_, fun h => ?_⟩ <;> simp only [decide_eq_true_eq, decide_eq_false_iff_not] at h
  · rw [if_pos h]; exact ⟨.refl _, trivial⟩
  · rw [if_neg h]
    refine ⟨[.ro], .agg (GExpr.ro (numE n)), [none], spec_l10Num n, trivial, by kernel_rfl, simT 5 0 _ e (numE n), trivial⟩
theorem spec_l11Sum {h : Nat} (e : GExpr) (n : Int) (x : OkX h e) (h0 : -65536 ≤ n) (h1 : n ≤ 65536) : Con 279 [.agg (GExpr.ro e), .int .i64 n] (.agg (GExpr.ro (sumE e n))) [none, none] := by
  refine con Tryz.func279 ?_
  have hb : 0 ≤ (partE e).2 ∧ (partE e).2 ≤ 65535 := by
    rcases part_cases x with ⟨m, a, n, _, _, g0, g1, hx, hp⟩ | ⟨hp, _⟩ <;> rw [hp]
    · exact ⟨g0, g1⟩
    · simp
  have e1 : IntKind.wrap .i64 ((partE e).2 + n) = (partE e).2 + n := w64 (by omega) (by omega)
  refine ⟨[.ro], .tup [.agg (GExpr.ro (partE e).1), .int .i64 (partE e).2], [none], spec_l11Part e x, trivial, ?_⟩
  exact ⟨[.ro, .ro], .agg (GExpr.ro (sumE e n)), [none, none], by rw [e1]; exact spec_l11Add _ _, trivial, .refl _, trivial⟩
theorem impl_added0 {h : Nat} (e : GExpr) (n : Int) (x : OkX h e) (h0 : 0 ≤ n) (h1 : n ≤ 65535) (hp : (partE e).1 = e ∧ (partE e).2 = 0) : Con 311 [.agg (GExpr.ro e), .int .i64 n] (.agg (GExpr.ro (addE e n))) [none, none] := by
  refine con Tryz.func311 ?_
  have hw := wr16_id h0 h1
  rw [addE, hw]
  have hne : ¬ (∃ m a k, h = m + 2 ∧ e = .mk 5 0 ⟨#[]⟩ [a, .mk 1 k ⟨#[]⟩ []] ∧ 0 ≤ k ∧ k ≤ 65535 ∧ OkX (m + 1) a ∧ partE e = (a, k)) := by
    rintro ⟨m, a, k, _, rfl, _, _, _, hq⟩
    have := hp.1
    rw [hq] at this
    have := congrArg SizeOf.sizeOf (show a = _ from this)
    simp at this; omega
  rcases (part_cases x).resolve_left hne with ⟨_, hk | ⟨a, b, rfl, hb⟩⟩
  · clear hne x hp
    repeat' (first | refine And.intro (fun (h : _ = true) => ?_) (fun (h : _ = false) => ?_) | refine And.intro (fun (h : _ = false) => ?_) (fun (h : _ = true) => ?_) | refine And.intro (show regOk _ _ = true from by kernel_rfl) ?_ | refine ⟨[.ro], .agg _, [none], impl_number n, (by first | exact trivial | exact ⟨trivial, trivial⟩ | exact ⟨GByte.nro _, trivial⟩ | exact ⟨GExpr.noRo_ow _, trivial⟩ | exact ⟨GExpr.nro _, trivial⟩ | exact ⟨GInt.nro _, trivial⟩ | exact ⟨GString.nro _, trivial⟩), ?_⟩ | refine ⟨[.ro, .ro, .ro], .agg _, [none, none, none], impl_two 5 e (numE n), trivial, ?_⟩ | fail)
    all_goals simp only [decide_eq_true_eq, decide_eq_false_iff_not] at *
    all_goals first | (exfalso; simp_all; done) | (rw [if_pos (by assumption)]; exact ⟨.refl _, trivial⟩) | (rw [if_neg (by assumption)]; exact ⟨.refl _, trivial⟩)
  · have r1 : (GExpr.ros [a, b])[1]? = some (GExpr.ro (b)) := ros_get [a, b] 1 (by simp)
    clear hne x hp
    repeat' (first | refine And.intro (fun (h : _ = true) => ?_) (fun (h : _ = false) => ?_) | refine And.intro (fun (h : _ = false) => ?_) (fun (h : _ = true) => ?_) | refine And.intro (show regOk _ _ = true from by kernel_rfl) ?_ | refine ⟨(show (0 : Int) ≤ 1 from by decide), _, r1, ?_⟩ | refine ⟨[.ro], .agg _, [none], impl_number n, (by first | exact trivial | exact ⟨trivial, trivial⟩ | exact ⟨GByte.nro _, trivial⟩ | exact ⟨GExpr.noRo_ow _, trivial⟩ | exact ⟨GExpr.nro _, trivial⟩ | exact ⟨GInt.nro _, trivial⟩ | exact ⟨GString.nro _, trivial⟩), ?_⟩ | refine ⟨[.ro, .ro, .ro], .agg _, [none, none, none], impl_two 5 (.mk 5 0 ⟨#[]⟩ [a, b]) (numE n), trivial, ?_⟩ | fail)
    all_goals clear r1
    all_goals simp only [decide_eq_true_eq, decide_eq_false_iff_not] at *
    all_goals first | (exfalso; simp_all; done) | (rw [if_pos (by assumption)]; exact ⟨.refl _, trivial⟩) | (rw [if_neg (by assumption)]; exact ⟨.refl _, trivial⟩)
theorem impl_added {h : Nat} (e : GExpr) (n : Int) (x : OkX h e) (h0 : 0 ≤ n) (h1 : n ≤ 65535) (hf : flatA e) : Con 311 [.agg (GExpr.ro e), .int .i64 n] (.agg (GExpr.ro (sumE e n))) [none, none] := by
  rcases part_cases x with ⟨m, a, k, rfl, rfl, k0, k1, hx, hp⟩ | ⟨hp, _⟩
  · have hf1 := hf.1
    have hf2 := hf.2.1
    rw [hp] at hf1 hf2
    rw [sumE, hp]
    have c := impl_added0 a (wr16 (k + n)) hx (wr16_in _).1 (wr16_in _).2 ⟨hf2, hf1⟩
    have e1 : addE a (wr16 (k + n)) = addE a (k + n) := by rw [addE, addE, wr16_idem, numE_wr]
    rw [e1] at c
    have r0 : (GExpr.ros [a, .mk 1 k ⟨#[]⟩ []])[0]? = some (GExpr.ro a) := ros_get [a, .mk 1 k ⟨#[]⟩ []] 0 (by simp)
    have r1 : (GExpr.ros [a, .mk 1 k ⟨#[]⟩ []])[1]? = some (GExpr.ro (.mk 1 k ⟨#[]⟩ [])) := ros_get [a, .mk 1 k ⟨#[]⟩ []] 1 (by simp)
    have e2 : IntKind.wrap .i64 (k + n) = k + n := w64 (by omega) (by omega)
    have cw : Con 185 [.int .i64 (IntKind.wrap .i64 (k + n))] (.int .i64 (wr16 (k + n))) [none] := by rw [e2]; exact impl_Wrap _
    refine con Tryz.func311 ?_
    clear hf hf1 hf2 x hx e1
    repeat' (first | refine And.intro (fun (h : _ = true) => ?_) (fun (h : _ = false) => ?_) | refine And.intro (fun (h : _ = false) => ?_) (fun (h : _ = true) => ?_) | refine And.intro (show regOk _ _ = true from by kernel_rfl) ?_ | refine ⟨Int.le_refl 0, _, r0, ?_⟩ | refine ⟨(show (0 : Int) ≤ 1 from by decide), _, r1, ?_⟩ | refine ⟨[.ro], .int .i64 _, [none], cw, trivial, ?_⟩ | refine ⟨[.ro, .ro], .agg _, [none, none], c, trivial, ?_⟩ | fail)
    all_goals first | (exact ⟨.refl _, trivial⟩) | (exfalso; simp_all [k_mk]; done)
  · rw [sumE, hp]
    dsimp only
    rw [Int.zero_add]
    exact impl_added0 e n x h0 h1 (by rw [hp]; exact ⟨rfl, rfl⟩)
theorem OkX.num_in {h : Nat} {e : GExpr} (x : OkX h e) (hk : e.k = 1) : 0 ≤ e.n ∧ e.n ≤ 65535 := by
  cases x with
  | num h0 h1 => exact ⟨h0, h1⟩
  | name hk' _ => rcases hk' with rfl | rfl <;> simp [GExpr.k] at hk
  | two h0 h1 _ _ => simp only [GExpr.k] at hk; omega
  | _ => simp [GExpr.k] at hk
theorem partE_in {h : Nat} {e : GExpr} (x : OkX h e) : 0 ≤ (partE e).2 ∧ (partE e).2 ≤ 65535 := by
  rcases part_cases x with ⟨m, a, n, _, _, g0, g1, hx, hp⟩ | ⟨hp, _⟩ <;> rw [hp]
  · exact ⟨g0, g1⟩
  · simp
theorem sumE_wr (a : GExpr) (n : Int) : sumE a (wr16 n) = sumE a n := by
  rw [sumE, sumE, addE, addE, (wr16_add _ _).1]
  have : numE ((partE a).2 + wr16 n) = numE ((partE a).2 + n) := by rw [numE, numE, (wr16_add _ _).1]
  rw [this]
theorem spec_l11Sub {h : Nat} (a b : GExpr) (xa : OkX h a) (xb : OkX h b) : Con 278 [.agg (GExpr.ro a), .agg (GExpr.ro b)] (.agg (GExpr.ro (subE a b))) [none, none] := by
  refine con Tryz.func278 ?_
  have pa := partE_in xa
  have pb := partE_in xb
  have e1 : IntKind.wrap .i64 ((partE a).2 - (partE b).2) = (partE a).2 - (partE b).2 := w64 (by omega) (by omega)
  rw [subE]
  refine ⟨fun h => ?_, fun h => ?_⟩ <;> simp only [decide_eq_true_eq, decide_eq_false_iff_not] at h
  · have hn := xb.num_in h
    have e2 : IntKind.wrap .i64 (-b.n) = -b.n := w64 (by omega) (by omega)
    rw [if_pos h]
    exact ⟨[.ro, .ro], .agg (GExpr.ro (sumE a (-b.n))), [none, none], by rw [e2]; exact spec_l11Sum a _ xa (by omega) (by omega), trivial, .refl _, trivial⟩
  · rw [if_neg h]
    clear h
    have ca := spec_l11Part a xa
    have cb := spec_l11Part b xb
    generalize partE a = A at *
    generalize partE b = B at *
    repeat' (first | refine And.intro (fun (h : _ = true) => ?_) (fun (h : _ = false) => ?_) | refine And.intro (fun (h : _ = false) => ?_) (fun (h : _ = true) => ?_) | refine And.intro (show regOk _ _ = true from by kernel_rfl) ?_ | refine ⟨[.ro], .tup [.agg _, .int .i64 _], [none], ca, trivial, ?_⟩ | refine ⟨[.ro], .tup [.agg _, .int .i64 _], [none], cb, trivial, ?_⟩ | refine ⟨[.ro], .agg (GExpr.ro (numE (A.2 - B.2))), [none], (by rw [e1]; exact spec_l10Num _), trivial, ?_⟩ | fail)
    all_goals clear ca cb
    all_goals simp only [decide_eq_true_eq, decide_eq_false_iff_not] at *
    all_goals first | (rw [if_neg (by simp_all)]; exact ⟨simT 6 0 _ a b, trivial⟩) | (rw [if_pos (by simp_all)]; exact ⟨.refl _, trivial⟩)
theorem impl_foldTwo {h : Nat} (k : Int) (a b : GExpr) (h0 : 5 ≤ k) (h1 : k ≤ 10) (xa : OkX h a) (xb : OkX h b) (fa : flatA a) (fb : flatA b) : Con 288 [.int .i64 k, .agg (GExpr.ro a), .agg (GExpr.ro b)] (.agg (GExpr.ro (ftwoE k a b))) [none, none, none] := by
  have c2 := impl_two k a b
  by_cases ha : a.k = 1 <;> by_cases hb : b.k = 1
  · have cc := impl_compute k a.n b.n
    rcases hc : compE k a.n b.n with _ | n <;> rw [hc] at cc
    · have k5 : k ≠ 5 := fun e => by subst e; simp [compE] at hc
      have k6 : k ≠ 6 := fun e => by subst e; simp [compE] at hc
      have hX : ftwoE k a b = twoE k a b := by simp [ftwoE, ha, hb, hc, pairE, k5, k6]
      rw [hX]
      refine con Tryz.func288 ?_
      repeat' (first | (exfalso; simp [ha, hb] at h; done) | refine And.intro (fun (h : _ = true) => ?_) (fun (h : _ = false) => ?_) | refine And.intro (fun (h : _ = false) => ?_) (fun (h : _ = true) => ?_) | refine And.intro (show regOk _ _ = true from by kernel_rfl) ?_ | refine ⟨[.ro, .ro, .ro], .tup [.int .i64 _, .ff], [none, none, none], .nbr rfl cc, trivial, ?_⟩ | refine ⟨[.ro, .ro, .ro], .agg _, [none, none, none], c2, trivial, ?_⟩ | refine And.intro (Sim.refl _) trivial | fail)
    · have hX : ftwoE k a b = numE n := by simp [ftwoE, ha, hb, hc]
      rw [hX]
      refine con Tryz.func288 ?_
      repeat' (first | (exfalso; simp [ha, hb] at h; done) | refine And.intro (fun (h : _ = true) => ?_) (fun (h : _ = false) => ?_) | refine And.intro (fun (h : _ = false) => ?_) (fun (h : _ = true) => ?_) | refine And.intro (show regOk _ _ = true from by kernel_rfl) ?_ | refine ⟨[.ro, .ro, .ro], .tup [.int .i64 _, .tt], [none, none, none], .nbr rfl cc, trivial, ?_⟩ | refine ⟨[.ro], .agg _, [none], impl_number n, trivial, ?_⟩ | refine And.intro (Sim.refl _) trivial | fail)
  · have na := xa.num_in ha
    have c1 := impl_added b a.n xb na.1 na.2 fb
    have sa := impl_inSect a xa
    have sb := impl_inSect b xb
    have hpa : (partE a).1.k ≠ 11 := by
      rcases part_cases xa with ⟨m, x, n, _, rfl, _⟩ | ⟨hp, _⟩
      · simp [GExpr.k] at ha
      · rw [hp]; simp [ha]
    have hsa : sectE a = .tup [.int .i64 0, .int .i64 0, .bool false] := by rw [sectE, if_neg hpa]
    rw [hsa] at sa
    have hsb : ∃ u v w, sectE b = .tup [.int .i64 u, .int .i64 v, .bool w] := by rw [sectE]; split <;> exact ⟨_, _, _, rfl⟩
    obtain ⟨u, v, w, hsb⟩ := hsb
    rw [hsb] at sb
    clear hsa hsb na
    by_cases k5 : k = 5
    · have hX : ftwoE k a b = sumE b a.n := by subst k5; simp [ftwoE, ha, hb, pairE]
      rw [hX]
      refine con Tryz.func288 ?_
      repeat' (first | (exfalso; simp [ha, hb, k5] at h; done) | refine And.intro (fun (h : _ = true) => ?_) (fun (h : _ = false) => ?_) | refine And.intro (fun (h : _ = false) => ?_) (fun (h : _ = true) => ?_) | refine And.intro (show regOk _ _ = true from by kernel_rfl) ?_ | refine ⟨[.ro, .ro], .agg _, [none, none], c1, trivial, ?_⟩ | refine And.intro (Sim.refl _) trivial | fail)
    · have hX : ftwoE k a b = twoE k a b := by
        by_cases k6 : k = 6
        · subst k6; simp [ftwoE, ha, hb, pairE, subE, hpa]
        · simp [ftwoE, ha, hb, pairE, k5, k6]
      rw [hX]
      refine con Tryz.func288 ?_
      repeat' (first | (exfalso; simp [ha, hb, k5] at h; done) | refine And.intro (fun (h : _ = true) => ?_) (fun (h : _ = false) => ?_) | refine And.intro (fun (h : _ = false) => ?_) (fun (h : _ = true) => ?_) | refine And.intro (show regOk _ _ = true from by kernel_rfl) ?_ | refine ⟨[.ro], .tup [.int .i64 _, .int .i64 _, .ff], [none], .nbr rfl sa, trivial, ?_⟩ | refine ⟨[.ro], .tup [.int .i64 _, .int .i64 _, .bool _], [none], sb, trivial, ?_⟩ | refine ⟨[.ro, .ro, .ro], .agg _, [none, none, none], c2, trivial, ?_⟩ | refine And.intro (Sim.refl _) trivial | fail)
  · have nb := xb.num_in hb
    have c1 := impl_added a b.n xa nb.1 nb.2 fa
    have c3 := impl_added a (wr16 (-b.n)) xa (wr16_in _).1 (wr16_in _).2 fa
    rw [sumE_wr] at c3
    have e2 : IntKind.wrap .i64 (-b.n) = -b.n := w64 (by omega) (by omega)
    by_cases k5 : k = 5
    · have hX : ftwoE k a b = sumE a b.n := by subst k5; simp [ftwoE, ha, hb, pairE]
      rw [hX]
      refine con Tryz.func288 ?_
      repeat' (first | (exfalso; simp [ha, hb, k5] at h; done) | refine And.intro (fun (h : _ = true) => ?_) (fun (h : _ = false) => ?_) | refine And.intro (fun (h : _ = false) => ?_) (fun (h : _ = true) => ?_) | refine And.intro (show regOk _ _ = true from by kernel_rfl) ?_ | refine ⟨[.ro, .ro], .agg _, [none, none], c1, trivial, ?_⟩ | refine And.intro (Sim.refl _) trivial | fail)
    · by_cases k6 : k = 6
      · have hX : ftwoE k a b = sumE a (-b.n) := by subst k6; simp [ftwoE, ha, hb, pairE, subE]
        rw [hX]
        refine con Tryz.func288 ?_
        repeat' (first | (exfalso; simp [ha, hb, k5, k6] at h; done) | refine And.intro (fun (h : _ = true) => ?_) (fun (h : _ = false) => ?_) | refine And.intro (fun (h : _ = false) => ?_) (fun (h : _ = true) => ?_) | refine And.intro (show regOk _ _ = true from by kernel_rfl) ?_ | refine ⟨[.ro], .int .i64 (wr16 (-b.n)), [none], (by rw [e2]; exact impl_Wrap _), trivial, ?_⟩ | refine ⟨[.ro, .ro], .agg _, [none, none], c3, trivial, ?_⟩ | refine And.intro (Sim.refl _) trivial | fail)
      · have hX : ftwoE k a b = twoE k a b := by simp [ftwoE, ha, hb, pairE, k5, k6]
        rw [hX]
        refine con Tryz.func288 ?_
        repeat' (first | (exfalso; simp [ha, hb, k5, k6] at h; done) | refine And.intro (fun (h : _ = true) => ?_) (fun (h : _ = false) => ?_) | refine And.intro (fun (h : _ = false) => ?_) (fun (h : _ = true) => ?_) | refine And.intro (show regOk _ _ = true from by kernel_rfl) ?_ | refine ⟨[.ro, .ro, .ro], .agg _, [none, none, none], c2, trivial, ?_⟩ | refine And.intro (Sim.refl _) trivial | fail)
  · by_cases k6 : k = 6
    · have sa := impl_inSect a xa
      have sb := impl_inSect b xb
      have cn := impl_number ((partE a).2 - (partE b).2)
      have pa := partE_in xa
      have pb := partE_in xb
      have e1 : IntKind.wrap .i64 ((partE a).2 - (partE b).2) = (partE a).2 - (partE b).2 := w64 (by omega) (by omega)
      have hX : ftwoE k a b = if (partE a).1.k = 11 ∧ (partE b).1.k = 11 ∧ (partE a).1.n = (partE b).1.n then numE ((partE a).2 - (partE b).2) else twoE 6 a b := by subst k6; simp [ftwoE, ha, pairE, subE, hb]
      rw [hX]
      clear hX pa pb
      subst k6
      by_cases pa : (partE a).1.k = 11 <;> by_cases pb : (partE b).1.k = 11
      · rw [sectE, if_pos pa] at sa
        rw [sectE, if_pos pb] at sb
        generalize partE a = A at *
        generalize partE b = B at *
        refine con Tryz.func288 ?_
        repeat' (first | (exfalso; simp [ha, hb] at h; done) | refine And.intro (fun (h : _ = true) => ?_) (fun (h : _ = false) => ?_) | refine And.intro (fun (h : _ = false) => ?_) (fun (h : _ = true) => ?_) | refine And.intro (show regOk _ _ = true from by kernel_rfl) ?_ | refine ⟨[.ro], .tup [.int .i64 _, .int .i64 _, .tt], [none], .nbr rfl sa, trivial, ?_⟩ | refine ⟨[.ro], .tup [.int .i64 _, .int .i64 _, .tt], [none], .nbr rfl sb, trivial, ?_⟩ | refine ⟨[.ro, .ro, .ro], .agg _, [none, none, none], c2, trivial, ?_⟩ | refine ⟨[.ro], .agg (GExpr.ro (numE (A.2 - B.2))), [none], (by rw [e1]; exact cn), trivial, ?_⟩ | fail)
        all_goals simp only [decide_eq_true_eq, decide_eq_false_iff_not] at *
        all_goals first | (rw [if_neg (by simp_all)]; exact ⟨.refl _, trivial⟩) | (rw [if_pos (by simp_all)]; exact ⟨.refl _, trivial⟩)
      all_goals
        rw [if_neg (by simp_all)]
        have hsa : ∃ u v, sectE a = .tup [.int .i64 u, .int .i64 v, .bool (decide ((partE a).1.k = 11))] := by rw [sectE]; split <;> simp_all
        have hsb : ∃ u v, sectE b = .tup [.int .i64 u, .int .i64 v, .bool (decide ((partE b).1.k = 11))] := by rw [sectE]; split <;> simp_all
        obtain ⟨u, v, hsa⟩ := hsa
        obtain ⟨u2, v2, hsb⟩ := hsb
        rw [hsa] at sa
        rw [hsb] at sb
        refine con Tryz.func288 ?_
        repeat' (first | (exfalso; simp [ha, hb, pa, pb] at h; done) | refine And.intro (fun (h : _ = true) => ?_) (fun (h : _ = false) => ?_) | refine And.intro (fun (h : _ = false) => ?_) (fun (h : _ = true) => ?_) | refine And.intro (show regOk _ _ = true from by kernel_rfl) ?_ | refine ⟨[.ro], .tup [.int .i64 _, .int .i64 _, .bool _], [none], sa, trivial, ?_⟩ | refine ⟨[.ro], .tup [.int .i64 _, .int .i64 _, .bool _], [none], sb, trivial, ?_⟩ | refine ⟨[.ro, .ro, .ro], .agg _, [none, none, none], c2, trivial, ?_⟩ | refine And.intro (Sim.refl _) trivial | fail)
    · by_cases k5 : k = 5
      all_goals
        have hX : ftwoE k a b = twoE k a b := by simp [ftwoE, ha, hb, pairE, k6]
        rw [hX]
        refine con Tryz.func288 ?_
        repeat' (first | (exfalso; simp [ha, hb, k5, k6] at h; done) | refine And.intro (fun (h : _ = true) => ?_) (fun (h : _ = false) => ?_) | refine And.intro (fun (h : _ = false) => ?_) (fun (h : _ = true) => ?_) | refine And.intro (show regOk _ _ = true from by kernel_rfl) ?_ | refine ⟨[.ro, .ro, .ro], .agg _, [none, none, none], c2, trivial, ?_⟩ | refine And.intro (Sim.refl _) trivial | fail)
theorem spec_l11Copy : ∀ (a : GExpr) (fa : GExpr.fit a), Con 184 [.agg (GExpr.ro a)] (.agg (GExpr.ow a)) [none] := by
  refine GExpr.ind fun a ih fa => ?_
  have ua := GExpr.fit_un fa
  have la := ros_len a.l
  refine con Tryz.func184 ?_
  refine ⟨{ i : Nat // i ≤ a.l.length }, fun i => ⟨[(1, .ptr 0 0 0), (2, .ptr 1 0 0), (3, .ptr 2 0 0), (4, .int .i64 i.1)], [(0, .box (GExpr.ro a) []), (1, .box [.int .i64 0, .int .i64 0, .str ⟨#[]⟩, .nils] []), (2, .box [.int .i64 a.k, .int .i64 a.n, .str a.s, .ow 4 (GExpr.ows (a.l.take i.1))] [])]⟩, fun i => a.l.length - i.1, ⟨0, by omega⟩, ?_, ?_⟩
  · exact ⟨rfl, rfl, rfl, rfl, rfl, rfl, rfl, .refl _, .refl _, .cons (.cons (.refl _) (.cons (.refl _) (.cons (.refl _) (.cons (.nil 4) (.refl _))))) (.refl _), trivial⟩
  · rintro ⟨i, hi⟩
    dsimp only
    refine ⟨fun h => ?_, fun h => ?_⟩ <;> simp only [la, decide_eq_true_eq, decide_eq_false_iff_not] at h
    · have hi : i < a.l.length := by omega
      refine ⟨Int.natCast_nonneg _, _, ros_get _ _ hi, [.ro], .agg (GExpr.ow a.l[i]), [none], ih _ (List.getElem_mem hi) (ua.2 _ (List.getElem_mem hi)), trivial, trivial, ?_, ⟨⟨trivial, trivial, trivial, trivial, trivial⟩, trivial⟩, ?_⟩
      · show ((GExpr.ows (a.l.take i)).length + 1) * 56 ≤ _
        rw [ows_len, List.length_take]; omega
      refine ⟨⟨i + 1, by omega⟩, by dsimp only; omega, rfl, rfl, rfl, rfl, rfl, rfl, congrArg (AV.int .i64) (w64 (by omega) (by omega)), .refl _, .refl _, .of_eq ?_, trivial⟩
      have e : a.l.take (i + 1) = a.l.take i ++ [a.l[i]] := by rw [List.take_add_one, List.getElem?_eq_getElem hi]; rfl
      show _ = [[AV.int .i64 a.k, .int .i64 a.n, .str a.s, .ow 4 (GExpr.ows (a.l.take (i + 1)))]]
      rw [e]
      exact congrArg (fun z => [[AV.int .i64 a.k, .int .i64 a.n, .str a.s, .ow 4 z]]) (snoc_row (a.l.take i) a.l[i])
    · refine ⟨.of_eq ?_, trivial⟩
      show AV.agg [.int .i64 a.k, .int .i64 a.n, .str a.s, .ow 4 (GExpr.ows (a.l.take i))] = _
      rw [List.take_of_length_le (by omega)]; rfl
theorem impl_copyExpr : ∀ (a : GExpr) (fa : GExpr.fit a), Con 255 [.agg (GExpr.ro a)] (.agg (GExpr.ow a)) [none] := by
  refine GExpr.ind fun a ih fa => ?_
  have ua := GExpr.fit_un fa
  have la := ros_len a.l
  refine con Tryz.func255 ?_
  refine ⟨{ i : Nat // i ≤ a.l.length }, fun i => ⟨[(2, .ptr 1 0 0), (3, .ptr 2 0 0), (14, .ro 4 (GExpr.ros a.l)), (15, .int .i64 a.l.length), (16, .int .i64 i.1)], [(1, .box [.int .i64 0, .int .i64 0, .str ⟨#[]⟩, .nils] []), (2, .box [.int .i64 a.k, .int .i64 a.n, .str a.s, .ow 4 (GExpr.ows (a.l.take i.1))] [])]⟩, fun i => a.l.length - i.1, ⟨0, by omega⟩, ?_, ?_⟩
  · exact ⟨rfl, rfl, rfl, rfl, rfl, congrArg (AV.int .i64) (by rw [la]), rfl, .refl _, .cons (.cons (.refl _) (.cons (.refl _) (.cons (.refl _) (.cons (.nil 4) (.refl _))))) (.refl _), trivial⟩
  · rintro ⟨i, hi⟩
    dsimp only
    refine ⟨fun h => ?_, fun h => ?_⟩ <;> simp only [decide_eq_true_eq, decide_eq_false_iff_not] at h
    · have hi : i < a.l.length := by omega
      refine ⟨Int.natCast_nonneg _, _, ros_get _ _ hi, [.ro], .agg (GExpr.ow a.l[i]), [none], ih _ (List.getElem_mem hi) (ua.2 _ (List.getElem_mem hi)), trivial, trivial, ?_, ⟨⟨trivial, trivial, trivial, trivial, trivial⟩, trivial⟩, by kernel_rfl, ?_⟩
      · show ((GExpr.ows (a.l.take i)).length + 1) * 56 ≤ _
        rw [ows_len, List.length_take]; omega
      refine ⟨⟨i + 1, by omega⟩, by dsimp only; omega, rfl, rfl, rfl, rfl, rfl, rfl, congrArg (AV.int .i64) (w64 (by omega) (by omega)), .refl _, .of_eq ?_, trivial⟩
      have e : a.l.take (i + 1) = a.l.take i ++ [a.l[i]] := by rw [List.take_add_one, List.getElem?_eq_getElem hi]; rfl
      show _ = [[AV.int .i64 a.k, .int .i64 a.n, .str a.s, .ow 4 (GExpr.ows (a.l.take (i + 1)))]]
      rw [e]
      exact congrArg (fun z => [[AV.int .i64 a.k, .int .i64 a.n, .str a.s, .ow 4 z]]) (snoc_row (a.l.take i) a.l[i])
    · refine ⟨.of_eq ?_, trivial⟩
      show AV.agg [.int .i64 a.k, .int .i64 a.n, .str a.s, .ow 4 (GExpr.ows (a.l.take i))] = _
      rw [List.take_of_length_le (by omega)]; rfl
end Go.Proofs.VI
