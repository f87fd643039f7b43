/- Contracts of functions, and what they rest on: l20b. -/
import Derived.Test.YtjlonhiojgljcaaGreatB4
set_option linter.unusedVariables false
set_option linter.unusedSimpArgs false
set_option maxRecDepth 10000
set_option maxHeartbeats 4000000
namespace Go.Proofs.VI
open Go
noncomputable def dec (p : Prop) : Bool := @decide p (Classical.propDecidable p)
theorem dec_true {p : Prop} (h : p) : dec p = true := @decide_eq_true p (Classical.propDecidable p) h
theorem dec_false {p : Prop} (h : ¬ p) : dec p = false := @decide_eq_false p (Classical.propDecidable p) h
theorem w64o {x : Int} (h0 : 9223372036854775807 < x) (h1 : x < 18446744073709551616) : IntKind.wrap .i64 x = x - 18446744073709551616 := by
  have h : ((2 : Int) ^ 64) = 18446744073709551616 := by decide
  have e0 : (x - 18446744073709551616) % 2 ^ 64 = x % 2 ^ 64 := by rw [h]; omega
  have e : IntKind.wrap .i64 x = IntKind.wrap .i64 (x - 18446744073709551616) := by
    show (fun r : Int => if (true && decide (r ≥ 2 ^ 63)) = true then r - 2 ^ 64 else r) (x % 2 ^ 64) = (fun r : Int => if (true && decide (r ≥ 2 ^ 63)) = true then r - 2 ^ 64 else r) ((x - 18446744073709551616) % 2 ^ 64)
    rw [e0]
  rw [e, w64 (by omega) (by omega)]
def sectAt (l : List GObj) (p : GPlaced) : Option GSect :=
  if inI p.mod 0 (l.length - 1) = true then (match l[p.mod.toNat]? with
    | some o => if inI p.sect 0 (o.sects.length - 1) = true then o.sects[p.sect.toNat]? else none
    | none => none) else none
def lenOf (s : GSect) : Int := if s.over = true then 0 else 2 * s.words.length
def lenAt (l : List GObj) (p : GPlaced) : Int := match sectAt l p with | some s => lenOf s | none => 0
theorem inI_get {α : Type} {l : List α} {x : Int} (h : inI x 0 (l.length - 1) = true) : 0 ≤ x ∧ ∃ y, l[x.toNat]? = some y ∧ ∃ h : x.toNat < l.length, y = l[x.toNat] := by
  simp only [inI, Bool.and_eq_true, decide_eq_true_eq] at h
  have hx : x.toNat < l.length := by omega
  exact ⟨h.1, _, List.getElem?_eq_getElem hx, hx, rfl⟩
/-- The three cases of where a section is. -/
theorem sectAt_cases (l : List GObj) (p : GPlaced) : (inI p.mod 0 (l.length - 1) = false ∧ sectAt l p = none) ∨
    ∃ o, o ∈ l ∧ inI p.mod 0 (l.length - 1) = true ∧ 0 ≤ p.mod ∧ l[p.mod.toNat]? = some o ∧ ((inI p.sect 0 (o.sects.length - 1) = false ∧ sectAt l p = none) ∨
      ∃ s, s ∈ o.sects ∧ inI p.sect 0 (o.sects.length - 1) = true ∧ 0 ≤ p.sect ∧ o.sects[p.sect.toNat]? = some s ∧ sectAt l p = some s) := by
  cases hm : inI p.mod 0 (l.length - 1) with
  | false => exact .inl ⟨rfl, by rw [sectAt, if_neg (by rw [hm]; simp)]⟩
  | true =>
    obtain ⟨h0, o, ho, hlt, he⟩ := inI_get hm
    refine .inr ⟨o, by rw [he]; exact List.getElem_mem _, rfl, h0, ho, ?_⟩
    cases hs : inI p.sect 0 (o.sects.length - 1) with
    | false => exact .inl ⟨rfl, by rw [sectAt, if_pos hm, ho]; simp only [hs]; rfl⟩
    | true =>
      obtain ⟨g0, s, gs, glt, ge⟩ := inI_get hs
      exact .inr ⟨s, by rw [ge]; exact List.getElem_mem _, rfl, g0, gs, by rw [sectAt, if_pos hm, ho]; simp only [hs, if_true]; exact gs⟩
theorem obj_row {l : List GObj} {i : Nat} {o : GObj} (h : l[i]? = some o) : (GObj.ros l)[i]? = some (GObj.ro o) := by simp [h]
theorem sect_row {l : List GSect} {i : Nat} {o : GSect} (h : l[i]? = some o) : (GSect.ros l)[i]? = some (GSect.ro o) := by simp [h]
def spanB (l : List GObj) (p : GPlaced) : Bool := decide (0 < lenAt l p)
/-- From, to, and whether it counts. -/
def spanF (l : List GObj) (p : GPlaced) : Int := if (sectAt l p).isSome then p.pos else 0
def spanT (l : List GObj) (p : GPlaced) : Int := match sectAt l p with | some s => IntKind.wrap .i64 (p.pos + 2 * s.words.length) | none => 0
def clash (l : List GObj) (x y : GPlaced) : Bool := decide (0 < lenAt l x) && (decide (0 < lenAt l y) && (decide (x.pos < IntKind.wrap .i64 (y.pos + lenAt l y)) && decide (y.pos < IntKind.wrap .i64 (x.pos + lenAt l x))))
noncomputable def apart (l : List GObj) (p : List GPlaced) : Bool := dec (∀ i (hi : i < p.length) k (hk : k < i), clash l p[i] p[k] = false)
theorem span_len {l : List GObj} {p : GPlaced} (h : 0 < lenAt l p) : spanF l p = p.pos ∧ spanT l p = IntKind.wrap .i64 (p.pos + lenAt l p) := by
  rw [lenAt] at h ⊢
  rw [spanF, spanT]
  cases hs : sectAt l p with
  | none => rw [hs] at h; simp at h
  | some s =>
    rw [hs] at h
    simp only [lenOf] at h ⊢
    cases ho : s.over <;> simp_all
theorem clash_span (l : List GObj) (x y : GPlaced) (hx : GPlaced.ok x) (hy : GPlaced.ok y) (bx : lenAt l x ≤ 1152921504606846976) (by_ : lenAt l y ≤ 1152921504606846976) :
    (spanB l x && (spanB l y && decide (max (spanF l x) (spanF l y) < min (spanT l x) (spanT l y)))) = clash l x y := by
  rw [clash, spanB, spanB]
  by_cases h1 : 0 < lenAt l x
  · by_cases h2 : 0 < lenAt l y
    · obtain ⟨a1, a2⟩ := span_len h1
      obtain ⟨b1, b2⟩ := span_len h2
      rw [a1, a2, b1, b2, decide_eq_true h1, decide_eq_true h2, Bool.true_and, Bool.true_and, ← Bool.decide_and]
      have ox := GPlaced.ok_un hx
      have oy := GPlaced.ok_un hy
      congr 1
      rw [eq_iff_iff]
      by_cases c1 : x.pos + lenAt l x ≤ 9223372036854775807 <;> by_cases c2 : y.pos + lenAt l y ≤ 9223372036854775807
      · rw [w64 (by omega) c1, w64 (by omega) c2]; omega
      · rw [w64 (by omega) c1, w64o (by omega) (by omega)]; omega
      · rw [w64o (x := x.pos + lenAt l x) (by omega) (by omega), w64 (by omega) c2]; omega
      · rw [w64o (x := x.pos + lenAt l x) (by omega) (by omega), w64o (by omega) (by omega)]; omega
    · rw [decide_eq_false h2]; simp
  · rw [decide_eq_false h1]; simp
theorem placed_row {l : List GPlaced} {i : Nat} (h : i < l.length) : (GPlaced.ros l)[i]? = some (GPlaced.ro l[i]) := map_get _ _ h
theorem lenAt_le (l : List GObj) (p : GPlaced) (hf : ∀ o ∈ l, GObj.fit o) : 0 ≤ lenAt l p ∧ lenAt l p ≤ 2199023255552 := by
  rcases sectAt_cases l p with ⟨_, h2⟩ | ⟨o, ho, _, _, _, ⟨_, h3⟩ | ⟨s, hs, _, _, _, h3⟩⟩
  · rw [lenAt, h2]; simp
  · rw [lenAt, h3]; simp
  · have fo := GObj.fit_un (hf o ho)
    have fs := GSect.fit_un (fo.1.2 s hs)
    rw [lenAt, h3]
    simp only [lenOf]
    cases s.over <;> simp <;> omega
theorem le_succ {q : Nat → Prop} {k : Nat} (h : ∀ j, j < k → q j) (hk : q k) : ∀ j, j < k + 1 → q j := fun j hj => by
  rcases Nat.lt_succ_iff_lt_or_eq.1 hj with h3 | h3
  · exact h j h3
  · subst h3; exact hk
end Go.Proofs.VI
