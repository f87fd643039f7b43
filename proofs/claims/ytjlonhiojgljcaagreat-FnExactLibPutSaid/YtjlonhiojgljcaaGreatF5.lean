/- Contracts of functions, and what they rest on: l16ok. -/
import Derived.Test.YtjlonhiojgljcaaGreatF3
set_option linter.unusedVariables false
set_option linter.unusedSimpArgs false
set_option maxRecDepth 10000
set_option maxHeartbeats 4000000
namespace Go.Proofs.VI
open Go
mutual
def hasK : GExpr → Int → Bool
  | .mk k _ _ l, j => decide (k = j) || hasKL l j
def hasKL : List GExpr → Int → Bool
  | [], _ => false
  | e :: l, j => hasK e j || hasKL l j
end
mutual
def belowE : GExpr → Int → Bool
  | .mk k m _ l, n => !(decide (k = 11) && decide (n ≤ m)) && belowL l n
def belowL : List GExpr → Int → Bool
  | [], _ => true
  | e :: l, n => belowE e n && belowL l n
end
mutual
def termE : GExpr → Int → Bool
  | .mk k m _ l, n => termL l n && (!decide (k = 2) && (!decide (k = 3) && (!decide (k = 11) || decide (m < n))))
def termL : List GExpr → Int → Bool
  | [], _ => true
  | e :: l, n => termE e n && termL l n
end
theorem hasKL_any (l : List GExpr) (j : Int) : hasKL l j = l.any fun x => hasK x j := by
  induction l with
  | nil => rfl
  | cons e l ih => rw [hasKL, ih]; rfl
theorem belowL_all (l : List GExpr) (n : Int) : belowL l n = l.all fun x => belowE x n := by
  induction l with
  | nil => rfl
  | cons e l ih => rw [belowL, ih]; rfl
theorem termL_all (l : List GExpr) (n : Int) : termL l n = l.all fun x => termE x n := by
  induction l with
  | nil => rfl
  | cons e l ih => rw [termL, ih]; rfl
theorem hasK_un (a : GExpr) (j : Int) : hasK a j = (decide (a.k = j) || a.l.any fun x => hasK x j) := by
  cases a; rw [hasK, hasKL_any]; rfl
theorem belowE_un (a : GExpr) (n : Int) : belowE a n = (!(decide (a.k = 11) && decide (n ≤ a.n)) && a.l.all fun x => belowE x n) := by
  cases a; rw [belowE, belowL_all]; rfl
theorem termE_un (a : GExpr) (n : Int) : termE a n = ((a.l.all fun x => termE x n) && (!decide (a.k = 2) && (!decide (a.k = 3) && (!decide (a.k = 11) || decide (a.n < n))))) := by
  cases a; rw [termE, termL_all]; rfl
theorem all_three {α : Type} (p q r s : α → Bool) : ∀ (l : List α), (∀ x ∈ l, p x = (!q x && (!r x && s x))) → l.all p = (!l.any q && (!l.any r && l.all s))
  | [], _ => rfl
  | x :: l, h => by
    rw [List.all_cons, all_three p q r s l fun y hy => h y (List.mem_cons_of_mem _ hy), h x List.mem_cons_self, List.any_cons, List.any_cons, List.all_cons]
    cases q x <;> cases r x <;> cases s x <;> simp
theorem termE_eq : ∀ (a : GExpr) (n : Int), termE a n = (!hasK a 2 && (!hasK a 3 && belowE a n)) := by
  refine GExpr.ind fun a ih n => ?_
  rw [termE_un, hasK_un, hasK_un, belowE_un, all_three _ (fun x => hasK x 2) (fun x => hasK x 3) (fun x => belowE x n) a.l fun x hx => ih x hx n]
  have e : decide (a.n < n) = !decide (n ≤ a.n) := by
    by_cases h : n ≤ a.n
    · rw [decide_eq_true h, decide_eq_false (by omega)]; rfl
    · rw [decide_eq_false h, decide_eq_true (by omega)]; rfl
  rw [e]
  cases decide (a.k = 2) <;> cases decide (a.k = 3) <;> cases decide (a.k = 11) <;> cases decide (n ≤ a.n) <;> simp
def placedE (e : GExpr) (n : Int) : Bool := okE e 1 false && (sameE (foldX e) e && termE e n)
theorem foldX_fit (e : GExpr) (fe : GExpr.fit e) : GExpr.fit (foldX e) := by
  rw [foldX]
  split
  · rename_i h; exact (foldE_ok ((okE_six e).1 h)).1.fit
  · exact fe
theorem impl_hasKind1 (x : GExpr) (k : Int) (c : Con 196 [.agg (GExpr.ro x), .int .i64 k] (.bool (hasK x k)) [none, none]) : Con 258 [.agg (GExpr.ro x), .rp [.int .i64 k] 0] (.bool (hasK x k)) [none, none] := by
  refine con Tryz.func258 ?_
  exact ⟨[.ro, .ro], .bool (hasK x k), [none, none], c, trivial, .refl _, trivial⟩
theorem index_hasK (l : List GExpr) (k : Int) (hl : l.length ≤ 1099511627776) (ih : ∀ x ∈ l, Con 196 [.agg (GExpr.ro x), .int .i64 k] (.bool (hasK x k)) [none, none]) : Con 289 [.ro 4 (GExpr.ros l), .fn 258 [.rp [.int .i64 k] 0]] (.int .i64 (idxOf (fun x => hasK x k) l)) [none, none] := by
  rw [GExpr.ros_eq]
  refine con Tryz.func289 ?_
  have hlen : (l.map GExpr.ro).length = l.length := by simp
  refine ⟨{ i : Nat // i ≤ l.length ∧ i ≤ l.findIdx (fun x => hasK x k) }, fun i => ⟨[(0, .ro 4 (l.map GExpr.ro)), (1, .fn 258 [.rp [.int .i64 k] 0]), (7, .int .i64 l.length), (8, .int .i64 i.1)], []⟩, fun i => l.length - i.1, ⟨0, by omega, by omega⟩, ?_, ?_⟩
  · exact ⟨rfl, rfl, rfl, congrArg (AV.int .i64) (by rw [hlen]), rfl, trivial⟩
  · rintro ⟨i, hi, hf⟩
    dsimp only
    refine ⟨fun h => ?_, fun h => ⟨.i64 ?_, trivial⟩⟩ <;> simp only [decide_eq_true_eq, decide_eq_false_iff_not] at h
    · have hi : i < l.length := by omega
      refine ⟨Int.natCast_nonneg _, _, map_get (f := GExpr.ro) _ _ hi, [.ro, .ro], .bool ((fun x => hasK x k) l[i]), [none, none], impl_hasKind1 l[i] k (ih _ (List.getElem_mem _)), trivial, fun h => ⟨.i64 ?_, trivial⟩, fun h => ?_⟩
      · exact (idxOf_hit _ l i hi hf h).symm
      · exact ⟨⟨i + 1, by omega, idxOf_step _ l i hi hf h⟩, by dsimp only; omega, rfl, rfl, rfl, rfl, congrArg (AV.int .i64) (w64 (by omega) (by omega)), trivial⟩
    · rw [idxOf_miss _ l (by omega)]

theorem cont_hasK (l : List GExpr) (k : Int) (hl : l.length ≤ 1099511627776) (ih : ∀ x ∈ l, Con 196 [.agg (GExpr.ro x), .int .i64 k] (.bool (hasK x k)) [none, none]) : Con 257 [.ro 4 (GExpr.ros l), .fn 258 [.rp [.int .i64 k] 0]] (.bool (l.any (fun x => hasK x k))) [none, none] := by
  refine con Tryz.func257 ?_
  refine ⟨[.ro, .ro], .int .i64 (idxOf (fun x => hasK x k) l), [none, none], index_hasK l k hl ih, trivial, .of_eq (congrArg AV.bool ?_), trivial⟩
  exact idxOf_any _ l

theorem impl_hasKind : ∀ (a : GExpr) (fa : GExpr.fit a) (k : Int), Con 196 [.agg (GExpr.ro a), .int .i64 k] (.bool (hasK a k)) [none, none] := by
  refine GExpr.ind fun a ih fa k => ?_
  have ua := GExpr.fit_un fa
  have c := cont_hasK a.l k ua.1 fun x hx => ih x hx (ua.2 x hx) k
  refine con Tryz.func196 ?_
  repeat' (first | refine And.intro (fun (h : _ = true) => ?_) (fun (h : _ = false) => ?_) | refine And.intro (fun (h : _ = false) => ?_) (fun (h : _ = true) => ?_) | refine And.intro (show regOk _ _ = true from by kernel_rfl) ?_ | refine And.intro (Sim.of_eq (congrArg AV.bool ?_)) trivial | refine ⟨[.ro, .ro], .bool _, [none, none], c, ⟨trivial, trivial⟩, ?_⟩ | fail)
  all_goals clear ih c ua fa
  all_goals rw [hasK_un]
  all_goals simp_all
theorem impl_sectsBelow : ∀ (a : GExpr) (fa : GExpr.fit a) (n : Int), Con 197 [.agg (GExpr.ro a), .int .i64 n] (.bool (belowE a n)) [none, none] := by
  refine GExpr.ind fun a ih fa n => ?_
  have ua := GExpr.fit_un fa
  have la := ros_len a.l
  have e := belowE_un a n
  refine con Tryz.func197 ?_
  have key : (decide (a.k = 11) && decide (n ≤ a.n)) = true ∨ ((decide (a.k = 11) = false ∨ decide (n ≤ a.n) = false) ∧ belowE a n = a.l.all fun x => belowE x n) := by
    rw [e]
    cases decide (a.k = 11) <;> cases decide (n ≤ a.n)
    · exact .inr ⟨.inl rfl, by simp⟩
    · exact .inr ⟨.inl rfl, by simp⟩
    · exact .inr ⟨.inr rfl, by simp⟩
    · exact .inl rfl
  rcases key with hb | ⟨hk | hk, hb⟩
  · simp only [Bool.and_eq_true, decide_eq_true_eq] at hb
    have e2 : belowE a n = false := by rw [e]; simp [hb]
    rw [e2]
    repeat' (first | (exfalso; simp [hb] at h; done) | refine And.intro (fun (h : _ = true) => ?_) (fun (h : _ = false) => ?_) | refine And.intro (fun (h : _ = false) => ?_) (fun (h : _ = true) => ?_) | refine And.intro (show regOk _ _ = true from by kernel_rfl) ?_ | refine And.intro (Sim.of_eq (congrArg AV.bool ?_)) trivial | fail)
    all_goals rfl
  all_goals
    clear e
    repeat' (first | (exfalso; rw [hk] at h; cases h; done) | refine And.intro (fun (h : _ = true) => ?_) (fun (h : _ = false) => ?_) | refine And.intro (fun (h : _ = false) => ?_) (fun (h : _ = true) => ?_) | refine And.intro (show regOk _ _ = true from by kernel_rfl) ?_ | refine ⟨{ i : Nat // i ≤ a.l.length ∧ ∀ j (h : j < a.l.length), j < i → belowE a.l[j] n = true }, fun i => ⟨[(1, .int .i64 n), (17, .ro 4 (GExpr.ros a.l)), (18, .int .i64 a.l.length), (19, .int .i64 i.1)], []⟩, fun i => a.l.length - i.1, ⟨0, Nat.zero_le _, fun j h h2 => absurd h2 (Nat.not_lt_zero _)⟩, ?_, ?_⟩ | fail)
    all_goals first
      | exact ⟨rfl, rfl, congrArg (AV.int .i64) (by rw [la]), rfl, trivial⟩
      | skip
    all_goals
      rintro ⟨i, hi, ha⟩
      dsimp only
      refine ⟨fun h => ?_, fun h => ⟨.of_eq (congrArg AV.bool ?_), trivial⟩⟩ <;> simp only [decide_eq_true_eq, decide_eq_false_iff_not] at h
      · have hi : i < a.l.length := by omega
        refine ⟨Int.natCast_nonneg _, _, ros_get _ _ hi, ?_⟩
        refine ⟨[.ro, .ro], .bool (belowE a.l[i] n), [none, none], ih _ (List.getElem_mem hi) (ua.2 _ (List.getElem_mem _)) n, trivial, ?_⟩
        refine ⟨fun h => ⟨.of_eq (congrArg AV.bool ?_), trivial⟩, fun h => ?_⟩ <;> simp only [Bool.not_eq_true', Bool.not_eq_false'] at h
        · rw [hb, List.all_eq_false.2 ⟨_, List.getElem_mem hi, by simp [h]⟩]
        · exact ⟨⟨i + 1, hi, fun j h1 hj => le_succ (q := fun j => ∀ hj : j < a.l.length, belowE a.l[j] n = true) (fun j hj h2 => ha j h2 hj) (fun _ => h) j hj h1⟩, Nat.sub_succ_lt_self _ _ hi, rfl, rfl, rfl, congrArg (AV.int .i64) (w64 (by omega) (by omega)), trivial⟩
      · rw [hb]
        refine (List.all_eq_true.2 fun x hx => ?_).symm
        obtain ⟨j, hj, rfl⟩ := List.mem_iff_getElem.1 hx
        exact ha j hj (by omega)
theorem spec_l16Term : ∀ (a : GExpr) (fa : GExpr.fit a) (n : Int), Con 200 [.agg (GExpr.ro a), .int .i64 n] (.bool (termE a n)) [none, none] := by
  refine GExpr.ind fun a ih fa n => ?_
  have ua := GExpr.fit_un fa
  have la := ros_len a.l
  refine con Tryz.func200 ?_
  refine ⟨{ i : Nat // i ≤ a.l.length ∧ ∀ j (h : j < a.l.length), j < i → termE a.l[j] n = true }, fun i => ⟨[(1, .int .i64 n), (2, .ptr 0 0 0), (5, .int .i64 i.1)], [(0, .box (GExpr.ro a) [])]⟩, fun i => a.l.length - i.1, ⟨0, Nat.zero_le _, fun j h h2 => absurd h2 (Nat.not_lt_zero _)⟩, ?_, ?_⟩
  · exact ⟨rfl, rfl, rfl, rfl, .refl _, trivial⟩
  · rintro ⟨i, hi, ha⟩
    dsimp only
    refine ⟨fun h => ?_, fun h => ?_⟩ <;> simp only [la, decide_eq_true_eq, decide_eq_false_iff_not] at h
    · have hi : i < a.l.length := by omega
      refine ⟨Int.natCast_nonneg _, _, ros_get _ _ hi, ?_⟩
      refine ⟨[.ro, .ro], .bool (termE a.l[i] n), [none, none], ih _ (List.getElem_mem hi) (ua.2 _ (List.getElem_mem _)) n, trivial, ?_⟩
      refine ⟨fun h => ⟨.of_eq (congrArg AV.bool ?_), trivial⟩, fun h => ?_⟩ <;> simp only [Bool.not_eq_true', Bool.not_eq_false'] at h
      · rw [termE_un, List.all_eq_false.2 ⟨_, List.getElem_mem hi, by simp [h]⟩]; rfl
      · exact ⟨⟨i + 1, hi, fun j h1 hj => le_succ (q := fun j => ∀ hj : j < a.l.length, termE a.l[j] n = true) (fun j hj h2 => ha j h2 hj) (fun _ => h) j hj h1⟩, Nat.sub_succ_lt_self _ _ hi, rfl, rfl, rfl, congrArg (AV.int .i64) (w64 (by omega) (by omega)), .refl _, trivial⟩
    · have e : termE a n = (!decide (a.k = 2) && (!decide (a.k = 3) && (!decide (a.k = 11) || decide (a.n < n)))) := by
        rw [termE_un, List.all_eq_true.2 fun x hx => ?_]
        · rfl
        obtain ⟨j, hj, rfl⟩ := List.mem_iff_getElem.1 hx
        exact ha j hj (by omega)
      rw [e]
      clear e ha ih ua fa
      repeat' (first | refine And.intro (fun (h : _ = true) => ?_) (fun (h : _ = false) => ?_) | refine And.intro (fun (h : _ = false) => ?_) (fun (h : _ = true) => ?_) | refine And.intro (show regOk _ _ = true from by kernel_rfl) ?_ | refine And.intro (Sim.of_eq (congrArg AV.bool ?_)) trivial | fail)
      all_goals simp_all
theorem impl_placedOk (e : GExpr) (n : Int) (fe : GExpr.fit e) (oe : GExpr.ok e) : Con 138 [.agg (GExpr.ro e), .int .i64 n] (.bool (placedE e n)) [none, none] := by
  refine con Tryz.func138 ?_
  have c1 := impl_ExprOk e fe oe
  have c2 := impl_Fold e fe oe
  have c3 := impl_SameExpr (foldX e) e (foldX_fit e fe) fe
  have c4 := impl_hasKind e fe 2
  have c5 := impl_hasKind e fe 3
  have c6 := impl_sectsBelow e fe n
  repeat' (first | refine And.intro (fun (h : _ = true) => ?_) (fun (h : _ = false) => ?_) | refine And.intro (fun (h : _ = false) => ?_) (fun (h : _ = true) => ?_) | refine And.intro (show regOk _ _ = true from by kernel_rfl) ?_ | refine And.intro (Sim.of_eq (congrArg AV.bool ?_)) trivial | refine ⟨[.ro], .bool _, [none], c1, trivial, ?_⟩ | refine ⟨[.ro], .agg _, [none], c2, trivial, ?_⟩ | refine ⟨[.ro, .ro], .bool _, [none, none], c3, trivial, ?_⟩ | refine ⟨[.ro, .ro], .bool _, [none, none], c4, trivial, ?_⟩ | refine ⟨[.ro, .ro], .bool _, [none, none], c5, trivial, ?_⟩ | refine ⟨[.ro, .ro], .bool _, [none, none], c6, trivial, ?_⟩ | fail)
  all_goals clear c1 c2 c3 c4 c5 c6
  all_goals rw [placedE, termE_eq]
  all_goals simp_all
theorem spec_l16Right (e : GExpr) (n : Int) (fe : GExpr.fit e) (oe : GExpr.ok e) : Con 142 [.agg (GExpr.ro e), .int .i64 n] (.bool (placedE e n)) [none, none] := by
  refine con Tryz.func142 ?_
  have c1 := spec_ExprOk e fe oe
  have c2 := spec_Fold e fe oe
  have c3 := spec_SameExpr (foldX e) e (foldX_fit e fe) fe
  have c4 := spec_l16Term e fe n
  repeat' (first | refine And.intro (fun (h : _ = true) => ?_) (fun (h : _ = false) => ?_) | refine And.intro (fun (h : _ = false) => ?_) (fun (h : _ = true) => ?_) | refine And.intro (show regOk _ _ = true from by kernel_rfl) ?_ | refine And.intro (Sim.of_eq (congrArg AV.bool ?_)) trivial | refine ⟨[.ro], .bool _, [none], c1, trivial, ?_⟩ | refine ⟨[.ro], .agg _, [none], c2, trivial, ?_⟩ | refine ⟨[.ro, .ro], .bool _, [none, none], c3, trivial, ?_⟩ | refine ⟨[.ro, .ro], .bool _, [none, none], c4, trivial, ?_⟩ | fail)
  all_goals clear c1 c2 c3 c4
  all_goals rw [placedE]
  all_goals simp_all
end Go.Proofs.VI
