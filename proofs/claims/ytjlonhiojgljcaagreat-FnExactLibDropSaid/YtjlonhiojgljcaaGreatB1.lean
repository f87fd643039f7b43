/- Contracts of functions, and what they rest on: walk l14. -/
import Derived.Test.YtjlonhiojgljcaaGreatD3
set_option linter.unusedVariables false
set_option linter.unusedSimpArgs false
set_option maxRecDepth 10000
set_option maxHeartbeats 4000000
namespace Go.Proofs.VI
open Go
theorem walk_ok : True := trivial
theorem cnt_Token (l : List GToken) : cntS GToken.w l = 3 * l.length := by
  induction l with
  | nil => rfl
  | cons t l ih => simp only [cntS, ih, List.length_cons, GToken.w]; omega
theorem cnt_TokenS (l : List (List GToken)) : cntS (cntS GToken.w) l = 3 * cntS List.length l := by
  induction l with
  | nil => rfl
  | cons t l ih => simp only [cntS, ih, cnt_Token]; omega
theorem cnt_String (l : List GString) : cntS GString.w l = l.length := by
  induction l with
  | nil => rfl
  | cons t l ih => simp only [cntS, ih, List.length_cons, GString.w]; omega
theorem cnt_mem {α : Type} (f : α → Nat) (l : List α) : ∀ x ∈ l, f x ≤ cntS f l := by
  induction l with
  | nil => simp
  | cons t l ih =>
    intro x hx
    simp only [cntS]
    rcases List.mem_cons.1 hx with rfl | hx
    · omega
    · have := ih x hx; omega
theorem plain_Tokens (l : List GToken) : plainRows (GToken.ros l) := by
  induction l with
  | nil => trivial
  | cons t l ih => exact ⟨⟨trivial, trivial, trivial, trivial⟩, ih⟩
def placeOf (l : List GString) (s : ByteArray) : Int := if l.findIdx (fun x => decide (x = s)) < l.length then (l.findIdx (fun x => decide (x = s)) : Int) else -1
theorem placeOf_hit (l : List GString) (s : ByteArray) (i : Nat) (hi : i < l.length) (h : i ≤ l.findIdx (fun x => decide (x = s))) (hs : l[i] = s) : placeOf l s = i := by
  have e : l.findIdx (fun x => decide (x = s)) = i := (List.findIdx_eq hi).2 ⟨by simpa using hs, fun j hj => by simpa using List.not_of_lt_findIdx (show j < l.findIdx (fun x => decide (x = s)) by omega)⟩
  rw [placeOf, e, if_pos hi]
theorem placeOf_step (l : List GString) (s : ByteArray) (i : Nat) (hi : i < l.length) (h : i ≤ l.findIdx (fun x => decide (x = s))) (hs : ¬ l[i] = s) : i + 1 ≤ l.findIdx (fun x => decide (x = s)) := by
  rcases Nat.lt_or_ge i (l.findIdx (fun x => decide (x = s))) with h2 | h2
  · exact h2
  · have e : l.findIdx (fun x => decide (x = s)) = i := by omega
    have := ((List.findIdx_eq hi).1 e).1
    simp only [decide_eq_true_eq] at this
    exact absurd this hs
theorem placeOf_miss (l : List GString) (s : ByteArray) (h : l.length ≤ l.findIdx (fun x => decide (x = s))) : placeOf l s = -1 := by
  rw [placeOf, if_neg (by omega)]
theorem placeOf_lt (l : List GString) (s : ByteArray) : -1 ≤ placeOf l s ∧ placeOf l s < l.length := by
  rw [placeOf]; split <;> omega
theorem spec_l9At (l : List GString) (s : ByteArray) (hl : l.length ≤ 1099511627776) : Con 144 [.ro 1 (GString.ros l), .str s] (.int .i64 (placeOf l s)) [none, none] := by
  refine con Tryz.func144 ?_
  have hlen : (l.map GString.ro).length = l.length := by simp
  refine ⟨{ i : Nat // i ≤ l.length ∧ i ≤ l.findIdx (fun x => decide (x = s)) }, fun i => ⟨[(0, .ro 1 (l.map GString.ro)), (1, .str s), (5, .int .i64 i.1)], []⟩, fun i => l.length - i.1, ⟨0, by omega, by omega⟩, ?_, ?_⟩
  · exact ⟨rfl, rfl, rfl, trivial⟩
  · rintro ⟨i, hi, hf⟩
    dsimp only
    refine ⟨fun h => ?_, fun h => ⟨.i64 ?_, trivial⟩⟩ <;> simp only [hlen, decide_eq_true_eq, decide_eq_false_iff_not] at h
    · have hi : i < l.length := by omega
      refine ⟨Int.natCast_nonneg _, _, map_get _ _ hi, fun h => ⟨.i64 ?_, trivial⟩, fun h => ?_⟩ <;> simp only [decide_eq_true_eq, decide_eq_false_iff_not] at h
      · exact (placeOf_hit l s i hi hf h).symm
      · exact ⟨⟨i + 1, by omega, placeOf_step l s i hi hf h⟩, by dsimp only; omega, rfl, rfl, congrArg (AV.int .i64) (w64 (by omega) (by omega)), trivial⟩
    · rw [placeOf_miss l s (by omega)]
theorem impl_placeIn (l : List GString) (s : ByteArray) (hl : l.length ≤ 1099511627776) : Con 151 [.ro 1 (GString.ros l), .str s] (.int .i64 (placeOf l s)) [none, none] := by
  refine con Tryz.func151 ?_
  have hlen : (l.map GString.ro).length = l.length := by simp
  refine ⟨{ i : Nat // i ≤ l.length ∧ i ≤ l.findIdx (fun x => decide (x = s)) }, fun i => ⟨[(1, .str s), (7, .ro 1 (l.map GString.ro)), (8, .int .i64 l.length), (9, .int .i64 i.1)], []⟩, fun i => l.length - i.1, ⟨0, by omega, by omega⟩, ?_, ?_⟩
  · exact ⟨rfl, rfl, congrArg (AV.int .i64) (by rw [hlen]), rfl, trivial⟩
  · rintro ⟨i, hi, hf⟩
    dsimp only
    refine ⟨fun h => ?_, fun h => ⟨.i64 ?_, trivial⟩⟩ <;> simp only [decide_eq_true_eq, decide_eq_false_iff_not] at h
    · have hi : i < l.length := by omega
      refine ⟨Int.natCast_nonneg _, _, map_get _ _ hi, fun h => ⟨.i64 ?_, trivial⟩, fun h => ?_⟩ <;> simp only [decide_eq_true_eq, decide_eq_false_iff_not] at h
      · exact (placeOf_hit l s i hi hf h).symm
      · exact ⟨⟨i + 1, by omega, placeOf_step l s i hi hf h⟩, by dsimp only; omega, rfl, rfl, rfl, congrArg (AV.int .i64) (w64 (by omega) (by omega)), trivial⟩
    · rw [placeOf_miss l s (by omega)]
def substOne (ps : List GString) (rs : List (List GToken)) (t : GToken) : List GToken :=
  if (if t.k = 1 then placeOf ps t.s else -1) < 0 then [t] else rs.getD (if t.k = 1 then placeOf ps t.s else -1).toNat []
def subst (l : List GToken) (ps : List GString) (rs : List (List GToken)) : List GToken := l.flatMap (substOne ps rs)
theorem substOne_len (ps : List GString) (rs : List (List GToken)) (t : GToken) : (substOne ps rs t).length ≤ 1 + cntS List.length rs := by
  unfold substOne
  generalize (if t.k = 1 then placeOf ps t.s else -1) = q
  split
  · simp
  · rw [List.getD_eq_getElem?_getD]
    cases h : rs[q.toNat]? with
    | none => simp
    | some x =>
      have := cnt_mem List.length rs x (List.mem_of_getElem? h)
      simp; omega
theorem subst_snoc (l : List GToken) (ps : List GString) (rs : List (List GToken)) (i : Nat) (h : i < l.length) : subst (l.take (i + 1)) ps rs = subst (l.take i) ps rs ++ substOne ps rs l[i] := by
  rw [subst, List.take_add_one, List.getElem?_eq_getElem h, List.flatMap_append]; simp [subst]
theorem subst_len (l : List GToken) (ps : List GString) (rs : List (List GToken)) : (subst l ps rs).length ≤ l.length * (1 + cntS List.length rs) := by
  induction l with
  | nil => simp [subst]
  | cons t l ih =>
    have := substOne_len ps rs t
    simp only [subst, List.flatMap_cons, List.length_append, List.length_cons, Nat.add_mul, Nat.one_mul] at ih ⊢
    omega
theorem subst_take_len (l : List GToken) (ps : List GString) (rs : List (List GToken)) (i : Nat) : (subst (l.take i) ps rs).length ≤ l.length * (1 + cntS List.length rs) :=
  Nat.le_trans (subst_len _ ps rs) (Nat.mul_le_mul_right _ (by simp; omega))
theorem bulkS_tot (l : List GTokenS) : cntS List.length l + l.length ≤ bulkS GTokenS.bulk l := by
  induction l with
  | nil => simp [cntS, bulkS]
  | cons t l ih =>
    have := bulkS_len GToken.bulk t
    simp only [cntS, bulkS, List.length_cons, GTokenS.bulk] at ih ⊢
    omega
theorem subst_bound (l : List GToken) (rs : List GTokenS) (h : l.length + cntS List.length rs ≤ 1048576) : l.length * (1 + cntS List.length rs) ≤ 1099511627776 := by
  rcases Nat.lt_or_ge l.length 524289 with h1 | h1
  · exact Nat.le_trans (Nat.mul_le_mul (show l.length ≤ 524288 by omega) (show 1 + cntS List.length rs ≤ 1048577 by omega)) (by decide)
  · exact Nat.le_trans (Nat.mul_le_mul (show l.length ≤ 1048576 by omega) (show 1 + cntS List.length rs ≤ 524288 by omega)) (by decide)
end Go.Proofs.VI
