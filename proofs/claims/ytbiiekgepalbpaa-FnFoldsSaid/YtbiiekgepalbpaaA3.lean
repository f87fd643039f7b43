/- Contracts of functions, and what they rest on: l20b. -/
import Derived.Test.YtbiiekgepalbpaaB4
set_option linter.unusedVariables false
set_option linter.unusedSimpArgs false
set_option maxRecDepth 10000
set_option maxHeartbeats 4000000
namespace Go.Proofs.VI
open Go
noncomputable def dec (p : Prop) : Bool := @decide p (Classical.propDecidable p)
theorem dec_true {p : Prop} (h : p) : dec p = true := @decide_eq_true p (Classical.propDecidable p) h
theorem dec_false {p : Prop} (h : ¬ p) : dec p = false := @decide_eq_false p (Classical.propDecidable p) h
theorem w64o {x : Int} (h0 : 9223372036854775807 < x) (h1 : x < 18446744073709551616) : IntKind.wrap .i64 x = x - 18446744073709551616 := by
  have h : ((2 : Int) ^ 64) = 18446744073709551616 := by decide
  have e0 : (x - 18446744073709551616) % 2 ^ 64 = x % 2 ^ 64 := by rw [h]; omega
  have e : IntKind.wrap .i64 x = IntKind.wrap .i64 (x - 18446744073709551616) := by
    show (fun r : Int => if (true && decide (r ≥ 2 ^ 63)) = true then r - 2 ^ 64 else r) (x % 2 ^ 64) = (fun r : Int => if (true && decide (r ≥ 2 ^ 63)) = true then r - 2 ^ 64 else r) ((x - 18446744073709551616) % 2 ^ 64)
    rw [e0]
  rw [e, w64 (by omega) (by omega)]
def sectAt (l : List GObj) (p : GPlaced) : Option GSect :=
  if inI p.mod 0 (l.length - 1) = true then (match l[p.mod.toNat]? with
    | some o => if inI p.sect 0 (o.sects.length - 1) = true then o.sects[p.sect.toNat]? else none
    | none => none) else none
def lenOf (s : GSect) : Int := if s.over = true then 0 else 2 * s.words.length
def lenAt (l : List GObj) (p : GPlaced) : Int := match sectAt l p with | some s => lenOf s | none => 0
theorem inI_get {α : Type} {l : List α} {x : Int} (h : inI x 0 (l.length - 1) = true) : 0 ≤ x ∧ ∃ y, l[x.toNat]? = some y ∧ ∃ h : x.toNat < l.length, y = l[x.toNat] := by
  simp only [inI, Bool.and_eq_true, decide_eq_true_eq] at h
  have hx : x.toNat < l.length := by omega
  exact ⟨h.1, _, List.getElem?_eq_getElem hx, hx, rfl⟩
/-- The three cases of where a section is. -/
theorem sectAt_cases (l : List GObj) (p : GPlaced) : (inI p.mod 0 (l.length - 1) = false ∧ sectAt l p = none) ∨
    ∃ o, o ∈ l ∧ inI p.mod 0 (l.length - 1) = true ∧ 0 ≤ p.mod ∧ l[p.mod.toNat]? = some o ∧ ((inI p.sect 0 (o.sects.length - 1) = false ∧ sectAt l p = none) ∨
      ∃ s, s ∈ o.sects ∧ inI p.sect 0 (o.sects.length - 1) = true ∧ 0 ≤ p.sect ∧ o.sects[p.sect.toNat]? = some s ∧ sectAt l p = some s) := by
  cases hm : inI p.mod 0 (l.length - 1) with
  | false => exact .inl ⟨rfl, by rw [sectAt, if_neg (by rw [hm]; simp)]⟩
  | true =>
    obtain ⟨h0, o, ho, hlt, he⟩ := inI_get hm
    refine .inr ⟨o, by rw [he]; exact List.getElem_mem _, rfl, h0, ho, ?_⟩
    cases hs : inI p.sect 0 (o.sects.length - 1) with
    | false => exact .inl ⟨rfl, by rw [sectAt, if_pos hm, ho]; simp only [hs]; rfl⟩
    | true =>
      obtain ⟨g0, s, gs, glt, ge⟩ := inI_get hs
      exact .inr ⟨s, by rw [ge]; exact List.getElem_mem _, rfl, g0, gs, by rw [sectAt, if_pos hm, ho]; simp only [hs, if_true]; exact gs⟩
theorem obj_row {l : List GObj} {i : Nat} {o : GObj} (h : l[i]? = some o) : (GObj.ros l)[i]? = some (GObj.ro o) := by simp [h]
theorem sect_row {l : List GSect} {i : Nat} {o : GSect} (h : l[i]? = some o) : (GSect.ros l)[i]? = some (GSect.ro o) := by simp [h]
theorem spec_l20Len (l : List GObj) (p : GPlaced) (hl : l.length ≤ 1099511627776) (hf : ∀ o ∈ l, GObj.fit o) : Con 81 [.ro 2 (GObj.ros l), .agg (GPlaced.ro p)] (.int .i64 (lenAt l p)) [none, none] := by
  refine con Try.func81 ?_
  have e1 : IntKind.wrap .i64 (((GObj.ros l).length : Int) - 1) = (l.length : Int) - 1 := by rw [List.length_map]; exact w64 (by omega) (by omega)
  rcases sectAt_cases l p with ⟨h1, h2⟩ | ⟨o, ho, h1, h0, hr, ⟨h2, h3⟩ | ⟨s, hs, h2, g0, gr, h3⟩⟩
  · repeat' (first | refine And.intro (fun (h : _ = true) => ?_) (fun (h : _ = false) => ?_) | refine And.intro (fun (h : _ = false) => ?_) (fun (h : _ = true) => ?_) | refine And.intro (show regOk _ _ = true from by kernel_rfl) ?_ | refine ⟨[.ro, .ro, .ro], .bool _, [none, none, none], spec_l1In _ _ _, (by first | exact trivial | exact ⟨trivial, trivial⟩ | exact ⟨GByte.nro _, trivial⟩ | exact ⟨GExpr.noRo_ow _, trivial⟩ | exact ⟨GExpr.nro _, trivial⟩ | exact ⟨GInt.nro _, trivial⟩ | exact ⟨GString.nro _, trivial⟩), ?_⟩ | refine And.intro (Sim.of_eq (congrArg (AV.int .i64) ?_)) trivial | fail)
    all_goals simp_all [lenAt]
  · have fo := GObj.fit_un (hf o ho)
    have e2 : IntKind.wrap .i64 (((GSect.ros o.sects).length : Int) - 1) = (o.sects.length : Int) - 1 := by rw [List.length_map]; exact w64 (by omega) (by omega)
    have hr' := obj_row hr
    repeat' (first | refine And.intro (fun (h : _ = true) => ?_) (fun (h : _ = false) => ?_) | refine And.intro (fun (h : _ = false) => ?_) (fun (h : _ = true) => ?_) | refine And.intro (show regOk _ _ = true from by kernel_rfl) ?_ | refine ⟨[.ro, .ro, .ro], .bool _, [none, none, none], spec_l1In _ _ _, (by first | exact trivial | exact ⟨trivial, trivial⟩ | exact ⟨GByte.nro _, trivial⟩ | exact ⟨GExpr.noRo_ow _, trivial⟩ | exact ⟨GExpr.nro _, trivial⟩ | exact ⟨GInt.nro _, trivial⟩ | exact ⟨GString.nro _, trivial⟩), ?_⟩ | refine And.intro (Sim.of_eq (congrArg (AV.int .i64) ?_)) trivial | refine ⟨h0, _, hr', ?_⟩ | fail)
    all_goals simp_all [lenAt]
  · have fo := GObj.fit_un (hf o ho)
    have fs := GSect.fit_un (fo.1.2 s hs)
    have e2 : IntKind.wrap .i64 (((GSect.ros o.sects).length : Int) - 1) = (o.sects.length : Int) - 1 := by rw [List.length_map]; exact w64 (by omega) (by omega)
    have e3 : IntKind.wrap .i64 (2 * ((GExpr.ros s.words).length : Int)) = 2 * s.words.length := by rw [ros_len]; exact w64 (by omega) (by omega)
    have hr' := obj_row hr
    have gr' := sect_row gr
    repeat' (first | refine And.intro (fun (h : _ = true) => ?_) (fun (h : _ = false) => ?_) | refine And.intro (fun (h : _ = false) => ?_) (fun (h : _ = true) => ?_) | refine And.intro (show regOk _ _ = true from by kernel_rfl) ?_ | refine ⟨[.ro, .ro, .ro], .bool _, [none, none, none], spec_l1In _ _ _, (by first | exact trivial | exact ⟨trivial, trivial⟩ | exact ⟨GByte.nro _, trivial⟩ | exact ⟨GExpr.noRo_ow _, trivial⟩ | exact ⟨GExpr.nro _, trivial⟩ | exact ⟨GInt.nro _, trivial⟩ | exact ⟨GString.nro _, trivial⟩), ?_⟩ | refine And.intro (Sim.of_eq (congrArg (AV.int .i64) ?_)) trivial | refine ⟨h0, _, hr', ?_⟩ | refine ⟨g0, _, gr', ?_⟩ | fail)
    all_goals simp_all [lenAt, lenOf]
def spanB (l : List GObj) (p : GPlaced) : Bool := decide (0 < lenAt l p)
/-- From, to, and whether it counts. -/
def spanF (l : List GObj) (p : GPlaced) : Int := if (sectAt l p).isSome then p.pos else 0
def spanT (l : List GObj) (p : GPlaced) : Int := match sectAt l p with | some s => IntKind.wrap .i64 (p.pos + 2 * s.words.length) | none => 0
theorem impl_spanOf (l : List GObj) (p : GPlaced) (hl : l.length ≤ 1099511627776) (hf : ∀ o ∈ l, GObj.fit o) : Con 83 [.ro 2 (GObj.ros l), .agg (GPlaced.ro p)] (.tup [.int .i64 (spanF l p), .int .i64 (spanT l p), .bool (spanB l p)]) [none, none] := by
  refine con Try.func83 ?_
  have e1 : IntKind.wrap .i64 (((GObj.ros l).length : Int) - 1) = (l.length : Int) - 1 := by rw [List.length_map]; exact w64 (by omega) (by omega)
  rcases sectAt_cases l p with ⟨h1, h2⟩ | ⟨o, ho, h1, h0, hr, ⟨h2, h3⟩ | ⟨s, hs, h2, g0, gr, h3⟩⟩
  · repeat' (first | refine And.intro (fun (h : _ = true) => ?_) (fun (h : _ = false) => ?_) | refine And.intro (fun (h : _ = false) => ?_) (fun (h : _ = true) => ?_) | refine And.intro (show regOk _ _ = true from by kernel_rfl) ?_ | refine And.intro (Sim.nb ?_) trivial | refine ⟨[.ro, .ro, .ro], .bool _, [none, none, none], impl_within _ _ _, (by first | exact trivial | exact ⟨trivial, trivial⟩ | exact ⟨GByte.nro _, trivial⟩ | exact ⟨GExpr.noRo_ow _, trivial⟩ | exact ⟨GExpr.nro _, trivial⟩ | exact ⟨GInt.nro _, trivial⟩ | exact ⟨GString.nro _, trivial⟩), ?_⟩ | fail)
    all_goals simp_all [spanF, spanT, spanB, lenAt, nb, nbAs, nbA, nbC, tuple]
  · have fo := GObj.fit_un (hf o ho)
    have e2 : IntKind.wrap .i64 (((GSect.ros o.sects).length : Int) - 1) = (o.sects.length : Int) - 1 := by rw [List.length_map]; exact w64 (by omega) (by omega)
    have hr' := obj_row hr
    repeat' (first | refine And.intro (fun (h : _ = true) => ?_) (fun (h : _ = false) => ?_) | refine And.intro (fun (h : _ = false) => ?_) (fun (h : _ = true) => ?_) | refine And.intro (show regOk _ _ = true from by kernel_rfl) ?_ | refine And.intro (Sim.nb ?_) trivial | refine ⟨[.ro, .ro, .ro], .bool _, [none, none, none], impl_within _ _ _, (by first | exact trivial | exact ⟨trivial, trivial⟩ | exact ⟨GByte.nro _, trivial⟩ | exact ⟨GExpr.noRo_ow _, trivial⟩ | exact ⟨GExpr.nro _, trivial⟩ | exact ⟨GInt.nro _, trivial⟩ | exact ⟨GString.nro _, trivial⟩), ?_⟩ | refine ⟨h0, _, hr', ?_⟩ | fail)
    all_goals simp_all [spanF, spanT, spanB, lenAt, nb, nbAs, nbA, nbC, tuple]
  · have fo := GObj.fit_un (hf o ho)
    have fs := GSect.fit_un (fo.1.2 s hs)
    have e2 : IntKind.wrap .i64 (((GSect.ros o.sects).length : Int) - 1) = (o.sects.length : Int) - 1 := by rw [List.length_map]; exact w64 (by omega) (by omega)
    have e3 : IntKind.wrap .i64 (2 * ((GExpr.ros s.words).length : Int)) = 2 * s.words.length := by rw [ros_len]; exact w64 (by omega) (by omega)
    have e4 := ros_len s.words
    have hr' := obj_row hr
    have gr' := sect_row gr
    have e5 : spanF l p = p.pos := by rw [spanF, h3]; rfl
    have e6 : spanT l p = IntKind.wrap .i64 (p.pos + 2 * s.words.length) := by rw [spanT, h3]
    have e7 : spanB l p = (!s.over && decide (0 < (s.words.length : Int))) := by
      rw [spanB, lenAt, h3]
      simp only [lenOf]
      by_cases ho : s.over = true <;> simp [ho] <;> omega
    rw [e5, e6, e7]
    clear e5 e6 e7 h3 hf
    repeat' (first | refine And.intro (fun (h : _ = true) => ?_) (fun (h : _ = false) => ?_) | refine And.intro (fun (h : _ = false) => ?_) (fun (h : _ = true) => ?_) | refine And.intro (show regOk _ _ = true from by kernel_rfl) ?_ | refine And.intro (Sim.nb ?_) trivial | refine ⟨[.ro, .ro, .ro], .bool _, [none, none, none], impl_within _ _ _, (by first | exact trivial | exact ⟨trivial, trivial⟩ | exact ⟨GByte.nro _, trivial⟩ | exact ⟨GExpr.noRo_ow _, trivial⟩ | exact ⟨GExpr.nro _, trivial⟩ | exact ⟨GInt.nro _, trivial⟩ | exact ⟨GString.nro _, trivial⟩), ?_⟩ | refine ⟨h0, _, hr', ?_⟩ | refine ⟨g0, _, gr', ?_⟩ | fail)
    all_goals simp_all [nb, nbAs, nbA, nbC, tuple]
def clash (l : List GObj) (x y : GPlaced) : Bool := decide (0 < lenAt l x) && (decide (0 < lenAt l y) && (decide (x.pos < IntKind.wrap .i64 (y.pos + lenAt l y)) && decide (y.pos < IntKind.wrap .i64 (x.pos + lenAt l x))))
noncomputable def apart (l : List GObj) (p : List GPlaced) : Bool := dec (∀ i (hi : i < p.length) k (hk : k < i), clash l p[i] p[k] = false)
theorem span_len {l : List GObj} {p : GPlaced} (h : 0 < lenAt l p) : spanF l p = p.pos ∧ spanT l p = IntKind.wrap .i64 (p.pos + lenAt l p) := by
  rw [lenAt] at h ⊢
  rw [spanF, spanT]
  cases hs : sectAt l p with
  | none => rw [hs] at h; simp at h
  | some s =>
    rw [hs] at h
    simp only [lenOf] at h ⊢
    cases ho : s.over <;> simp_all
theorem clash_span (l : List GObj) (x y : GPlaced) (hx : GPlaced.ok x) (hy : GPlaced.ok y) (bx : lenAt l x ≤ 1152921504606846976) (by_ : lenAt l y ≤ 1152921504606846976) :
    (spanB l x && (spanB l y && decide (max (spanF l x) (spanF l y) < min (spanT l x) (spanT l y)))) = clash l x y := by
  rw [clash, spanB, spanB]
  by_cases h1 : 0 < lenAt l x
  · by_cases h2 : 0 < lenAt l y
    · obtain ⟨a1, a2⟩ := span_len h1
      obtain ⟨b1, b2⟩ := span_len h2
      rw [a1, a2, b1, b2, decide_eq_true h1, decide_eq_true h2, Bool.true_and, Bool.true_and, ← Bool.decide_and]
      have ox := GPlaced.ok_un hx
      have oy := GPlaced.ok_un hy
      congr 1
      rw [eq_iff_iff]
      by_cases c1 : x.pos + lenAt l x ≤ 9223372036854775807 <;> by_cases c2 : y.pos + lenAt l y ≤ 9223372036854775807
      · rw [w64 (by omega) c1, w64 (by omega) c2]; omega
      · rw [w64 (by omega) c1, w64o (by omega) (by omega)]; omega
      · rw [w64o (x := x.pos + lenAt l x) (by omega) (by omega), w64 (by omega) c2]; omega
      · rw [w64o (x := x.pos + lenAt l x) (by omega) (by omega), w64o (by omega) (by omega)]; omega
    · rw [decide_eq_false h2]; simp
  · rw [decide_eq_false h1]; simp
theorem placed_row {l : List GPlaced} {i : Nat} (h : i < l.length) : (GPlaced.ros l)[i]? = some (GPlaced.ro l[i]) := map_get _ _ h
theorem lenAt_le (l : List GObj) (p : GPlaced) (hf : ∀ o ∈ l, GObj.fit o) : 0 ≤ lenAt l p ∧ lenAt l p ≤ 2199023255552 := by
  rcases sectAt_cases l p with ⟨_, h2⟩ | ⟨o, ho, _, _, _, ⟨_, h3⟩ | ⟨s, hs, _, _, _, h3⟩⟩
  · rw [lenAt, h2]; simp
  · rw [lenAt, h3]; simp
  · have fo := GObj.fit_un (hf o ho)
    have fs := GSect.fit_un (fo.1.2 s hs)
    rw [lenAt, h3]
    simp only [lenOf]
    cases s.over <;> simp <;> omega
theorem le_succ {q : Nat → Prop} {k : Nat} (h : ∀ j, j < k → q j) (hk : q k) : ∀ j, j < k + 1 → q j := fun j hj => by
  rcases Nat.lt_succ_iff_lt_or_eq.1 hj with h3 | h3
  · exact h j h3
  · subst h3; exact hk
theorem spec_Apart (l : List GObj) (p : List GPlaced) (hl : l.length ≤ 1099511627776) (hp : p.length ≤ 1099511627776) (hf : ∀ o ∈ l, GObj.fit o) : Con 27 [.ro 2 (GObj.ros l), .ro 3 (GPlaced.ros p)] (.bool (apart l p)) [none, none] := by
  refine con Try.func27 ?_
  have hlen : (GPlaced.ros p).length = p.length := by simp
  refine ⟨{ i : Nat // i ≤ p.length ∧ ∀ i', i' < i → ∀ (hi : i' < p.length) k (hk : k < i'), clash l p[i'] p[k] = false }, fun i => ⟨[(0, .ro 2 (GObj.ros l)), (1, .ro 3 (GPlaced.ros p)), (5, .int .i64 i.1)], []⟩, fun i => p.length - i.1, ⟨0, by omega, fun i' h => by omega⟩, ?_, ?_⟩
  · exact ⟨rfl, rfl, rfl, trivial⟩
  · rintro ⟨i, hi, ha⟩
    dsimp only
    refine ⟨fun h => ?_, fun h => ⟨.nb (congrArg AV.bool ?_), trivial⟩⟩ <;> simp only [hlen, decide_eq_true_eq, decide_eq_false_iff_not] at h
    · have hi : i < p.length := by omega
      clear h
      refine ⟨{ k : Nat // k ≤ i ∧ ∀ k' (hk : k' < k) (hki : k' < i), clash l p[i] p[k'] = false }, fun k => ⟨[(0, .ro 2 (GObj.ros l)), (1, .ro 3 (GPlaced.ros p)), (5, .int .i64 i), (6, .int .i64 k.1)], []⟩, fun k => i - k.1, ⟨0, by omega, fun k' h => by omega⟩, ?_, ?_⟩
      · exact ⟨rfl, rfl, rfl, rfl, trivial⟩
      · rintro ⟨k, hk, hb⟩
        dsimp only
        refine ⟨fun h => ?_, fun h => ?_⟩ <;> simp only [decide_eq_true_eq, decide_eq_false_iff_not] at h
        · have hk : k < i := by omega
          clear h
          have hri := placed_row hi
          have hrk := placed_row (l := p) (i := k) (by omega)
          have hno : clash l p[i] p[k] = true → apart l p = false := fun h => dec_false fun h2 => by rw [h2 i hi k hk] at h; cases h
          have hyes : clash l p[i] p[k] = false → ∀ k' (hk : k' < k + 1) (hki : k' < i), clash l p[i] p[k'] = false := fun h => le_succ (q := fun k' => ∀ (hki : k' < i), clash l p[i] p[k'] = false) hb fun _ => h
          repeat' (first | refine And.intro (fun (h : _ = true) => ?_) (fun (h : _ = false) => ?_) | refine And.intro (fun (h : _ = false) => ?_) (fun (h : _ = true) => ?_) | refine And.intro (show regOk _ _ = true from by kernel_rfl) ?_ | refine ⟨[.ro, .ro], .int .i64 _, [none, none], spec_l20Len l p[i] hl hf, (by first | exact trivial | exact ⟨trivial, trivial⟩ | exact ⟨GByte.nro _, trivial⟩ | exact ⟨GExpr.noRo_ow _, trivial⟩ | exact ⟨GExpr.nro _, trivial⟩ | exact ⟨GInt.nro _, trivial⟩ | exact ⟨GString.nro _, trivial⟩), ?_⟩ | refine ⟨[.ro, .ro], .int .i64 _, [none, none], spec_l20Len l p[k] hl hf, (by first | exact trivial | exact ⟨trivial, trivial⟩ | exact ⟨GByte.nro _, trivial⟩ | exact ⟨GExpr.noRo_ow _, trivial⟩ | exact ⟨GExpr.nro _, trivial⟩ | exact ⟨GInt.nro _, trivial⟩ | exact ⟨GString.nro _, trivial⟩), ?_⟩ | refine ⟨Int.natCast_nonneg _, _, hri, ?_⟩ | refine ⟨Int.natCast_nonneg _, _, hrk, ?_⟩ | refine And.intro (Sim.nb (congrArg AV.bool (Eq.symm (hno ?_)))) trivial | refine ⟨⟨k + 1, hk, hyes ?_⟩, Nat.sub_succ_lt_self _ _ hk, rfl, rfl, rfl, congrArg (AV.int .i64) (w64 (by omega) (by omega)), trivial⟩ | fail)
          all_goals clear hno hyes hb ha hf
          all_goals first | (simp_all [clash]; done) | (simp_all [clash]; intros; omega)
        · exact ⟨⟨i + 1, by omega, le_succ (q := fun i' => ∀ (hi : i' < p.length) k (hk : k < i'), clash l p[i'] p[k] = false) ha fun _ k' hk' => hb k' (by omega) hk'⟩, by dsimp only; omega, rfl, rfl, congrArg (AV.int .i64) (w64 (by omega) (by omega)), trivial⟩
    · exact (dec_true fun i' hi' k hk => ha i' (by omega) hi' k hk).symm
theorem impl_Apart (l : List GObj) (p : List GPlaced) (hl : l.length ≤ 1099511627776) (hp : p.length ≤ 1099511627776) (hf : ∀ o ∈ l, GObj.fit o) (ho : ∀ x ∈ p, GPlaced.ok x) : Con 30 [.ro 2 (GObj.ros l), .ro 3 (GPlaced.ros p)] (.bool (apart l p)) [none, none] := by
  refine con Try.func30 ?_
  have hlen : (GPlaced.ros p).length = p.length := by simp
  refine ⟨{ i : Nat // i ≤ p.length ∧ ∀ i', i' < i → ∀ (hi : i' < p.length) k (hk : k < i'), clash l p[i'] p[k] = false }, fun i => ⟨[(0, .ro 2 (GObj.ros l)), (1, .ro 3 (GPlaced.ros p)), (15, .ro 3 (GPlaced.ros p)), (16, .int .i64 p.length), (17, .int .i64 i.1)], []⟩, fun i => p.length - i.1, ⟨0, by omega, fun i' h => by omega⟩, ?_, ?_⟩
  · exact ⟨rfl, rfl, rfl, congrArg (AV.int .i64) (by rw [hlen]), rfl, trivial⟩
  · rintro ⟨i, hi, ha⟩
    dsimp only
    refine ⟨fun h => ?_, fun h => ⟨.nb (congrArg AV.bool ?_), trivial⟩⟩ <;> simp only [hlen, decide_eq_true_eq, decide_eq_false_iff_not] at h
    · have hi : i < p.length := by omega
      clear h
      have hri := placed_row hi
      refine ⟨Int.natCast_nonneg _, _, hri, ?_⟩
      refine ⟨[.ro, .ro], .tup [.int .i64 (spanF l p[i]), .int .i64 (spanT l p[i]), .bool (spanB l p[i])], [none, none], impl_spanOf l p[i] hl hf, trivial, ?_⟩
      refine ⟨by omega, by rw [hlen]; omega, ?_⟩
      have hl2 : (((GPlaced.ros p).drop 0).take (i - 0)).length = i := by simp; omega
      refine ⟨{ k : Nat // k ≤ i ∧ ∀ k' (hk : k' < k) (hki : k' < i), clash l p[i] p[k'] = false }, fun k => ⟨[(0, .ro 2 (GObj.ros l)), (1, .ro 3 (GPlaced.ros p)), (5, .int .i64 i), (7, .int .i64 (spanF l p[i])), (8, .int .i64 (spanT l p[i])), (9, .bool (spanB l p[i])), (15, .ro 3 (GPlaced.ros p)), (16, .int .i64 p.length), (17, .int .i64 i), (31, .ro 3 (((GPlaced.ros p).drop 0).take (i - 0))), (32, .int .i64 i), (33, .int .i64 k.1)], []⟩, fun k => i - k.1, ⟨0, by omega, fun k' h => by omega⟩, ?_, ?_⟩
      · exact ⟨rfl, rfl, rfl, rfl, rfl, rfl, rfl, rfl, rfl, rfl, congrArg (AV.int .i64) (congrArg Nat.cast hl2), rfl, trivial⟩
      · rintro ⟨k, hk, hb⟩
        dsimp only
        refine ⟨fun h => ?_, fun h => ?_⟩ <;> simp only [decide_eq_true_eq, decide_eq_false_iff_not] at h
        · have hk : k < i := by omega
          clear h
          have hrk : (((GPlaced.ros p).drop 0).take (i - 0))[k]? = some (GPlaced.ro p[k]) := by
            rw [List.drop_zero, List.getElem?_take, if_pos (by omega)]
            exact placed_row (l := p) (i := k) (by omega)
          have hcl := clash_span l p[i] p[k] (ho _ (List.getElem_mem _)) (ho _ (List.getElem_mem _)) (by have := lenAt_le l p[i] hf; omega) (by have := lenAt_le l p[k] hf; omega)
          have hno : clash l p[i] p[k] = true → apart l p = false := fun h => dec_false fun h2 => by rw [h2 i hi k hk] at h; cases h
          have hyes : clash l p[i] p[k] = false → ∀ k' (hk : k' < k + 1) (hki : k' < i), clash l p[i] p[k'] = false := fun h => le_succ (q := fun k' => ∀ (hki : k' < i), clash l p[i] p[k'] = false) hb fun _ => h
          rw [← hcl] at hno hyes
          refine ⟨Int.natCast_nonneg _, _, hrk, ?_⟩
          refine ⟨[.ro, .ro], .tup [.int .i64 (spanF l p[k]), .int .i64 (spanT l p[k]), .bool (spanB l p[k])], [none, none], impl_spanOf l p[k] hl hf, trivial, ?_⟩
          repeat' (first | refine And.intro (fun (h : _ = true) => ?_) (fun (h : _ = false) => ?_) | refine And.intro (fun (h : _ = false) => ?_) (fun (h : _ = true) => ?_) | refine And.intro (show regOk _ _ = true from by kernel_rfl) ?_ | refine And.intro (Sim.nb (congrArg AV.bool (Eq.symm (hno ?_)))) trivial | refine ⟨⟨k + 1, hk, hyes ?_⟩, Nat.sub_succ_lt_self _ _ hk, rfl, rfl, rfl, rfl, rfl, rfl, rfl, rfl, rfl, rfl, rfl, congrArg (AV.int .i64) (w64 (by omega) (by omega)), trivial⟩ | fail)
          all_goals clear hno hyes hb ha hf hcl ho
          all_goals first | (simp_all; done) | (simp_all; omega) | (simp_all; split at h <;> split at h <;> omega)
        · exact ⟨⟨i + 1, by omega, le_succ (q := fun i' => ∀ (hi : i' < p.length) k (hk : k < i'), clash l p[i'] p[k] = false) ha fun _ k' hk' => hb k' (by omega) hk'⟩, by dsimp only; omega, rfl, rfl, rfl, rfl, congrArg (AV.int .i64) (w64 (by omega) (by omega)), trivial⟩
    · exact (dec_true fun i' hi' k hk => ha i' (by omega) hi' k hk).symm
end Go.Proofs.VI
