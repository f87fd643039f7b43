/- Contracts of functions, and what they rest on: l10same. -/
import Derived.Test.YtjlonhiojgljcaaGreatD2
set_option linter.unusedVariables false
set_option linter.unusedSimpArgs false
set_option maxRecDepth 10000
set_option maxHeartbeats 4000000
namespace Go.Proofs.VI
open Go
def all2 {α β : Type} (p : α → β → Bool) : List α → List β → Bool
  | [], _ => true
  | _ :: _, [] => false
  | x :: l, y :: m => p x y && all2 p l m
theorem all2_true {α β : Type} (p : α → β → Bool) : ∀ (l : List α) (m : List β), l.length = m.length → (∀ j (h : j < l.length) (h' : j < m.length), p l[j] m[j] = true) → all2 p l m = true
  | [], _, _, _ => rfl
  | x :: l, [], h, _ => by simp at h
  | x :: l, y :: m, h, hj => by
    rw [all2, all2_true p l m (by simpa using h) fun j h1 h2 => hj (j + 1) (by simpa using h1) (by simpa using h2)]
    have := hj 0 (by simp) (by simp)
    simpa using this
theorem all2_false {α β : Type} (p : α → β → Bool) : ∀ (l : List α) (m : List β) (j : Nat) (h : j < l.length) (h' : j < m.length), p l[j] m[j] = false → all2 p l m = false
  | [], _, _, h, _, _ => by simp at h
  | x :: l, [], _, _, h', _ => by simp at h'
  | x :: l, y :: m, 0, _, _, hj => by
    rw [all2, show p x y = false from hj]; rfl
  | x :: l, y :: m, j + 1, h, h', hj => by
    rw [all2, all2_false p l m j (by simpa using h) (by simpa using h') hj]; simp
mutual
def sameE : GExpr → GExpr → Bool
  | .mk k n s l, b => decide (k = b.k) && decide (n = b.n) && decide (s = b.s) && decide (l.length = b.l.length) && sameL l b.l
def sameL : List GExpr → List GExpr → Bool
  | [], _ => true
  | _ :: _, [] => false
  | x :: l, y :: m => sameE x y && sameL l m
end
theorem sameL_all2 : ∀ (l m : List GExpr), sameL l m = all2 sameE l m
  | [], _ => by rw [sameL, all2]
  | _ :: _, [] => by rw [sameL, all2]
  | x :: l, y :: m => by rw [sameL, all2, sameL_all2 l m]
theorem sameE_un (a b : GExpr) : sameE a b = (decide (a.k = b.k) && decide (a.n = b.n) && decide (a.s = b.s) && decide (a.l.length = b.l.length) && all2 sameE a.l b.l) := by
  cases a; rw [sameE, sameL_all2]; rfl
theorem ros_get (l : List GExpr) (i : Nat) (h : i < l.length) : (GExpr.ros l)[i]? = some (GExpr.ro l[i]) := by rw [GExpr.ros_eq, map_get _ _ h]
theorem ros_len (l : List GExpr) : (GExpr.ros l).length = l.length := by rw [GExpr.ros_eq, List.length_map]
theorem k_mk (k n : Int) (s : ByteArray) (l : List GExpr) : (GExpr.mk k n s l).k = k := rfl
theorem n_mk (k n : Int) (s : ByteArray) (l : List GExpr) : (GExpr.mk k n s l).n = n := rfl
theorem l_mk (k n : Int) (s : ByteArray) (l : List GExpr) : (GExpr.mk k n s l).l = l := rfl
theorem ows_snoc (l : List GExpr) (x : GExpr) : GExpr.ows (l ++ [x]) = GExpr.ows l ++ [GExpr.ow x] := by simp [GExpr.ows_eq]
theorem ows_len (l : List GExpr) : (GExpr.ows l).length = l.length := by rw [GExpr.ows_eq, List.length_map]
theorem snoc_row (l : List GExpr) (x : GExpr) : (GExpr.ows l ++ [[AV.int .i64 x.k, .int .i64 x.n, .str x.s, .nilp]]).modify ((GExpr.ows l).length + 0) (fun row => row.set 3 (.ow 4 (GExpr.ows x.l))) = GExpr.ows (l ++ [x]) := by
  rw [modify_end, ows_snoc]; rfl
theorem GExpr.ok_mk {k n : Int} {s : ByteArray} {l : List GExpr} (hk : -9223372036854775808 ≤ k ∧ k ≤ 9223372036854775807) (hn : -9223372036854775808 ≤ n ∧ n ≤ 9223372036854775807) (hs : s.size ≤ 9223372036854775807) (hl : l.length ≤ 9223372036854775807) (h : ∀ x ∈ l, GExpr.ok x) : GExpr.ok (.mk k n s l) := by
  rw [GExpr.ok, GExpr.okL_iff]; exact ⟨hk, hn, hs, hl, h⟩
theorem spec_SameExpr : ∀ (a b : GExpr) (fa : GExpr.fit a) (fb : GExpr.fit b), Con 121 [.agg (GExpr.ro a), .agg (GExpr.ro b)] (.bool (sameE a b)) [none, none] := by
  refine GExpr.ind fun a ih b fa fb => ?_
  have ua := GExpr.fit_un fa
  have ub := GExpr.fit_un fb
  refine con Tryz.func121 ?_
  have la := ros_len a.l
  have lb := ros_len b.l
  refine ⟨fun h1 => ?_, fun h1 => ⟨.of_eq (congrArg AV.bool ?_), trivial⟩⟩ <;> simp only [decide_eq_true_eq, decide_eq_false_iff_not] at h1
  rotate_left
  · rw [sameE_un]; simp [h1]
  refine ⟨fun h2 => ?_, fun h2 => ⟨.of_eq (congrArg AV.bool ?_), trivial⟩⟩ <;> simp only [decide_eq_true_eq, decide_eq_false_iff_not] at h2
  rotate_left
  · rw [sameE_un]; simp [h2]
  refine ⟨fun h3 => ?_, fun h3 => ⟨.of_eq (congrArg AV.bool ?_), trivial⟩⟩ <;> simp only [decide_eq_true_eq, decide_eq_false_iff_not] at h3
  rotate_left
  · rw [sameE_un]; simp [h3]
  refine ⟨fun h4 => ⟨.of_eq (congrArg AV.bool ?_), trivial⟩, fun h4 => ?_⟩ <;> simp only [la, lb, decide_eq_true_eq, decide_eq_false_iff_not] at h4
  · have : ¬ a.l.length = b.l.length := by omega
    rw [sameE_un]; simp [this]
  have h4 : a.l.length = b.l.length := by omega
  simp only [Decidable.not_not] at h1 h2 h3
  have hO : sameE a b = all2 sameE a.l b.l := by rw [sameE_un]; simp [h1, h2, h3, h4]
  refine ⟨{ i : Nat // i ≤ a.l.length ∧ ∀ j (h : j < i) (h1 : j < a.l.length) (h2 : j < b.l.length), sameE a.l[j] b.l[j] = true }, fun i => ⟨[(2, .ptr 0 0 0), (3, .ptr 1 0 0), (5, .int .i64 i.1)], [(0, .box (GExpr.ro a) []), (1, .box (GExpr.ro b) [])]⟩, fun i => a.l.length - i.1, ⟨0, by omega, fun j h => by omega⟩, ?_, ?_⟩
  · exact ⟨rfl, rfl, rfl, rfl, rfl, .refl _, .refl _, trivial⟩
  · rintro ⟨i, hi, ha⟩
    dsimp only
    refine ⟨fun h => ?_, fun h => ⟨.of_eq (congrArg AV.bool ?_), trivial⟩⟩ <;> simp only [la, decide_eq_true_eq, decide_eq_false_iff_not] at h
    · have hi : i < a.l.length := by omega
      have hi2 : i < b.l.length := by omega
      refine ⟨Int.natCast_nonneg _, _, ros_get _ _ hi, Int.natCast_nonneg _, _, ros_get _ _ hi2, ?_⟩
      refine ⟨[.ro, .ro], .bool (sameE a.l[i] b.l[i]), [none, none], ih _ (List.getElem_mem _) _ (ua.2 _ (List.getElem_mem _)) (ub.2 _ (List.getElem_mem _)), trivial, ?_⟩
      refine ⟨rfl, fun h => ⟨.of_eq (congrArg AV.bool ?_), trivial⟩, fun h => ?_⟩ <;> simp only [Bool.not_eq_true', Bool.not_eq_false'] at h
      · exact (hO.trans (all2_false sameE a.l b.l i hi hi2 h)).symm
      · refine ⟨⟨i + 1, by omega, fun j hj h1 h2 => ?_⟩, by dsimp only; omega, rfl, rfl, rfl, rfl, congrArg (AV.int .i64) (w64 (by omega) (by omega)), .refl _, .refl _, trivial⟩
        rcases Nat.lt_succ_iff_lt_or_eq.1 hj with h3 | h3
        · exact ha j h3 h1 h2
        · subst h3; exact h
    · exact (hO.trans (all2_true sameE a.l b.l h4 fun j h1 h2 => ha j (by omega) h1 h2)).symm
theorem impl_SameExpr : ∀ (a b : GExpr) (fa : GExpr.fit a) (fb : GExpr.fit b), Con 54 [.agg (GExpr.ro a), .agg (GExpr.ro b)] (.bool (sameE a b)) [none, none] := by
  refine GExpr.ind fun a ih b fa fb => ?_
  have ua := GExpr.fit_un fa
  have ub := GExpr.fit_un fb
  refine con Tryz.func54 ?_
  have la := ros_len a.l
  have lb := ros_len b.l
  refine ⟨fun h1 => ?_, fun h1 => ⟨.of_eq (congrArg AV.bool ?_), trivial⟩⟩ <;> simp only [decide_eq_true_eq, decide_eq_false_iff_not] at h1
  rotate_left
  · rw [sameE_un]; simp [h1]
  refine ⟨fun h2 => ?_, fun h2 => ⟨.of_eq (congrArg AV.bool ?_), trivial⟩⟩ <;> simp only [decide_eq_true_eq, decide_eq_false_iff_not] at h2
  rotate_left
  · rw [sameE_un]; simp [h2]
  refine ⟨fun h3 => ?_, fun h3 => ⟨.of_eq (congrArg AV.bool ?_), trivial⟩⟩ <;> simp only [decide_eq_true_eq, decide_eq_false_iff_not] at h3
  rotate_left
  · rw [sameE_un]; simp [h3]
  refine ⟨fun h4 => ⟨.of_eq (congrArg AV.bool ?_), trivial⟩, fun h4 => ?_⟩ <;> simp only [la, lb, decide_eq_true_eq, decide_eq_false_iff_not] at h4
  · have : ¬ a.l.length = b.l.length := by omega
    rw [sameE_un]; simp [this]
  have h4 : a.l.length = b.l.length := by omega
  simp only [Decidable.not_not] at h1 h2 h3
  have hO : sameE a b = all2 sameE a.l b.l := by rw [sameE_un]; simp [h1, h2, h3, h4]
  refine ⟨{ i : Nat // i ≤ a.l.length ∧ ∀ j (h : j < i) (h1 : j < a.l.length) (h2 : j < b.l.length), sameE a.l[j] b.l[j] = true }, fun i => ⟨[(3, .ptr 0 0 0), (36, .ro 4 (GExpr.ros a.l)), (37, .int .i64 a.l.length), (38, .int .i64 i.1)], [(0, .box (GExpr.ro b) [])]⟩, fun i => a.l.length - i.1, ⟨0, by omega, fun j h => by omega⟩, ?_, ?_⟩
  · exact ⟨rfl, rfl, rfl, congrArg (AV.int .i64) (by rw [la, h4]), rfl, .refl _, trivial⟩
  · rintro ⟨i, hi, ha⟩
    dsimp only
    refine ⟨fun h => ?_, fun h => ⟨.of_eq (congrArg AV.bool ?_), trivial⟩⟩ <;> simp only [la, decide_eq_true_eq, decide_eq_false_iff_not] at h
    · have hi : i < a.l.length := by omega
      have hi2 : i < b.l.length := by omega
      refine ⟨Int.natCast_nonneg _, _, ros_get _ _ hi, Int.natCast_nonneg _, _, ros_get _ _ hi2, ?_⟩
      refine ⟨[.ro, .ro], .bool (sameE a.l[i] b.l[i]), [none, none], ih _ (List.getElem_mem _) _ (ua.2 _ (List.getElem_mem _)) (ub.2 _ (List.getElem_mem _)), trivial, ?_⟩
      refine ⟨rfl, fun h => ⟨.of_eq (congrArg AV.bool ?_), trivial⟩, fun h => ?_⟩ <;> simp only [Bool.not_eq_true', Bool.not_eq_false'] at h
      · exact (hO.trans (all2_false sameE a.l b.l i hi hi2 h)).symm
      · refine ⟨⟨i + 1, by omega, fun j hj h1 h2 => ?_⟩, by dsimp only; omega, rfl, rfl, rfl, rfl, congrArg (AV.int .i64) (w64 (by omega) (by omega)), .refl _, trivial⟩
        rcases Nat.lt_succ_iff_lt_or_eq.1 hj with h3 | h3
        · exact ha j h3 h1 h2
        · subst h3; exact h
    · exact (hO.trans (all2_true sameE a.l b.l h4 fun j h1 h2 => ha j (by omega) h1 h2)).symm
end Go.Proofs.VI
