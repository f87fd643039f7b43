/- Contracts of functions, and what they rest on: l20c. -/
import Derived.Test.YtjlonhiojgljcaaGreatA3
set_option linter.unusedVariables false
set_option linter.unusedSimpArgs false
set_option maxRecDepth 10000
set_option maxHeartbeats 4000000
namespace Go.Proofs.VI
open Go
theorem find_idx {α : Type} (p : α → Bool) (l : List α) (h : l.findIdx p < l.length) : l.find? p = some l[l.findIdx p] := by
  rw [List.find?_eq_some_iff_getElem]
  exact ⟨List.findIdx_getElem, _, h, rfl, fun j hj => by simpa using List.not_of_lt_findIdx hj⟩
theorem find_none' {α : Type} (p : α → Bool) (l : List α) (h : ¬ l.findIdx p < l.length) : l.find? p = none := by
  rw [List.find?_eq_none]
  intro x hx
  have := List.findIdx_eq_length.1 (show l.findIdx p = l.length from Nat.le_antisymm List.findIdx_le_length (by omega)) x hx
  simpa using this
/-- What idxOf tells of find?. -/
theorem idx_cases {α : Type} (p : α → Bool) (l : List α) : (idxOf p l = -1 ∧ l.find? p = none) ∨ ∃ (i : Nat) (h : i < l.length), idxOf p l = i ∧ l.find? p = some l[i] := by
  by_cases h : l.findIdx p < l.length
  · exact .inr ⟨_, h, by rw [idxOf, if_pos h], find_idx p l h⟩
  · exact .inl ⟨by rw [idxOf, if_neg h], find_none' p l h⟩
theorem find_hit {α : Type} (p : α → Bool) (l : List α) (i : Nat) (hi : i < l.length) (ha : ∀ j (h : j < l.length), j < i → p l[j] = false) (hp : p l[i] = true) : l.find? p = some l[i] := by
  rw [List.find?_eq_some_iff_getElem]
  exact ⟨hp, i, hi, rfl, fun j hj => by rw [ha j (by omega) hj]; rfl⟩
theorem find_miss {α : Type} (p : α → Bool) (l : List α) (ha : ∀ j (h : j < l.length), p l[j] = false) : l.find? p = none := by
  rw [List.find?_eq_none]
  intro x hx
  obtain ⟨j, hj, rfl⟩ := List.mem_iff_getElem.1 hx
  rw [ha j hj]; simp
def collect (f : Nat → Option Int) : Nat → Option (List Int)
  | 0 => some []
  | n + 1 => match collect f n, f n with
    | some l, some x => some (l ++ [x])
    | _, _ => none
theorem collect_yes {f : Nat → Option Int} {n : Nat} {l : List Int} {x : Int} (h : collect f n = some l) (hx : f n = some x) : collect f (n + 1) = some (l ++ [x]) := by rw [collect, h, hx]
theorem collect_no {f : Nat → Option Int} {i : Nat} (hx : f i = none) : ∀ n, i < n → collect f n = none
  | 0, h => by omega
  | n + 1, h => by
    rw [collect]
    rcases Nat.lt_succ_iff_lt_or_eq.1 h with h2 | h2
    · rw [collect_no hx n h2]
    · subst h2; rw [hx]; cases collect f i <;> rfl
theorem collect_len {f : Nat → Option Int} : ∀ {n : Nat} {l : List Int}, collect f n = some l → l.length = n
  | 0, l, h => by injection h with h; subst h; rfl
  | n + 1, l, h => by
    rw [collect] at h
    split at h
    · rename_i l2 x h2 _
      injection h with h; subst h
      rw [List.length_append, collect_len h2]; rfl
    · cases h
def pmatch (m s : Int) (x : GPlaced) : Bool := decide (x.mod = m) && decide (x.sect = s)
def atOf (p : List GPlaced) (m s : Int) : Option Int := (p.find? (pmatch m s)).map (·.pos)
def basesOf (l : List GObj) (p : List GPlaced) (m : Int) : List Int :=
  if inI m 0 (l.length - 1) = true then (match l[m.toNat]? with | some o => (collect (fun k => atOf p m k) o.sects.length).getD [] | none => []) else []
theorem int_app (a b : List Int) : GInt.ows a ++ GInt.ows b = GInt.ows (a ++ b) := List.map_append.symm
theorem int_len (a : List Int) : (GInt.ows a).length = a.length := by simp
theorem int_plain (a : List Int) : plainRows (GInt.ows a) := by
  induction a with
  | nil => trivial
  | cons x l ih => exact ⟨⟨trivial, trivial⟩, ih⟩
theorem impl_BasesOf1 (x : GPlaced) (m s : Int) : Con 225 [.agg (GPlaced.ro x), .rp [.int .i64 m] 0, .rp [.int .i64 s] 0] (.bool (pmatch m s x)) [none, none, none] := by
  refine con Tryz.func225 ?_
  repeat' (first | refine And.intro (fun (h : _ = true) => ?_) (fun (h : _ = false) => ?_) | refine And.intro (fun (h : _ = false) => ?_) (fun (h : _ = true) => ?_) | refine And.intro (show regOk _ _ = true from by kernel_rfl) ?_ | refine And.intro (Sim.nb ?_) trivial | fail)
  all_goals simp_all [pmatch, nb, nbA, nbC, tuple]
theorem index_Bases (l : List GPlaced) (m s : Int) (hl : l.length ≤ 1099511627776) : Con 224 [.ro 3 (GPlaced.ros l), .fn 225 [.rp [.int .i64 m] 0, .rp [.int .i64 s] 0]] (.int .i64 (idxOf (pmatch m s) l)) [none, none] := by
  rw [GPlaced.ros_eq]
  refine con Tryz.func224 ?_
  have hlen : (l.map GPlaced.ro).length = l.length := by simp
  refine ⟨{ i : Nat // i ≤ l.length ∧ i ≤ l.findIdx (pmatch m s) }, fun i => ⟨[(0, .ro 3 (l.map GPlaced.ro)), (1, .fn 225 [.rp [.int .i64 m] 0, .rp [.int .i64 s] 0]), (7, .int .i64 l.length), (8, .int .i64 i.1)], []⟩, fun i => l.length - i.1, ⟨0, by omega, by omega⟩, ?_, ?_⟩
  · exact ⟨rfl, rfl, rfl, rfl, congrArg (AV.int .i64) (by rw [hlen]), rfl, trivial⟩
  · rintro ⟨i, hi, hf⟩
    dsimp only
    refine ⟨fun h => ?_, fun h => ⟨.i64 ?_, trivial⟩⟩ <;> simp only [decide_eq_true_eq, decide_eq_false_iff_not] at h
    · have hi : i < l.length := by omega
      refine ⟨Int.natCast_nonneg _, _, map_get (f := GPlaced.ro) _ _ hi, [.ro, .ro, .ro], .bool ((pmatch m s) l[i]), [none, none, none], impl_BasesOf1 l[i] m s, trivial, fun h => ⟨.i64 ?_, trivial⟩, fun h => ?_⟩
      · exact (idxOf_hit _ l i hi hf h).symm
      · exact ⟨⟨i + 1, by omega, idxOf_step _ l i hi hf h⟩, by dsimp only; omega, rfl, rfl, rfl, rfl, rfl, congrArg (AV.int .i64) (w64 (by omega) (by omega)), trivial⟩
    · rw [idxOf_miss _ l (by omega)]

theorem impl_BasesOf (l : List GObj) (p : List GPlaced) (m : Int) (hl : l.length ≤ 1099511627776) (hp : p.length ≤ 1099511627776) (hf : ∀ o ∈ l, GObj.fit o) : Con 156 [.ro 2 (GObj.ros l), .ro 3 (GPlaced.ros p), .int .i64 m] (.ow 1 (GInt.ows (basesOf l p m))) [none, none, none] := by
  refine con Tryz.func156 ?_
  have e1 : IntKind.wrap .i64 (((GObj.ros l).length : Int) - 1) = (l.length : Int) - 1 := by rw [List.length_map]; exact w64 (by omega) (by omega)
  refine ⟨[.ro, .ro, .ro], .bool (inI m 0 (l.length - 1)), [none, none, none], by rw [e1]; exact impl_within _ _ _, trivial, fun h => ?_, fun h => ?_⟩ <;> simp only [Bool.not_eq_true', Bool.not_eq_false'] at h
  · refine ⟨.of_eq (congrArg (AV.ow 1) ?_), trivial⟩
    rw [basesOf, if_neg (by rw [h]; simp)]; rfl
  · obtain ⟨h0, o, ho, hlt, he⟩ := inI_get h
    have fo := GObj.fit_un (hf o (by rw [he]; exact List.getElem_mem _))
    have hb : basesOf l p m = (collect (fun k => atOf p m k) o.sects.length).getD [] := by rw [basesOf, if_pos h, ho]
    have hlen : (GSect.ros o.sects).length = o.sects.length := by simp
    rw [hb]
    refine ⟨h0, _, obj_row ho, ?_⟩
    refine ⟨{ q : Nat × List Int // q.1 ≤ o.sects.length ∧ collect (fun k => atOf p m k) q.1 = some q.2 }, fun q => ⟨[(1, .ro 3 (GPlaced.ros p)), (5, .ptr 0 0 0), (7, .own 1), (23, .int .i64 o.sects.length), (24, .int .i64 q.1.1)], [(0, .box [.int .i64 m] []), (1, .rows 1 (GInt.ows q.1.2) [])]⟩, fun q => o.sects.length - q.1.1, ⟨(0, []), by omega, rfl⟩, ?_, ?_⟩
    · exact ⟨rfl, rfl, rfl, congrArg (AV.int .i64) (by rw [hlen]), rfl, .refl _, rfl, .refl _, trivial⟩
    · rintro ⟨⟨i, out⟩, hi, hc⟩
      dsimp only at hi hc ⊢
      have hcl := collect_len hc
      refine ⟨fun h => ?_, fun h => ⟨.of_eq (congrArg (AV.ow 1) ?_), trivial⟩⟩ <;> simp only [decide_eq_true_eq, decide_eq_false_iff_not] at h
      · have hi : i < o.sects.length := by omega
        refine ⟨[.ro, .ro], .int .i64 (idxOf (pmatch m i) p), [none, none], index_Bases p m i hp, ⟨trivial, trivial⟩, ?_⟩
        rcases idx_cases (pmatch m i) p with ⟨g1, g2⟩ | ⟨j, hj, g1, g2⟩ <;> rw [g1]
        · refine ⟨fun h => ⟨.of_eq ?_, trivial⟩, fun h => absurd h (by decide)⟩
          have : atOf p m i = none := by rw [atOf, g2]; rfl
          rw [collect_no (f := fun k => atOf p m k) this _ hi]; rfl
        · refine ⟨fun h => absurd (of_decide_eq_true h) (by omega), fun h => ?_⟩
          have : atOf p m i = some p[j].pos := by rw [atOf, g2]; rfl
          refine ⟨Int.natCast_nonneg _, _, placed_row hj, trivial, ?_, ?_, ?_⟩
          · show ((GInt.ows out).length + 1) * 8 ≤ _
            rw [int_len]; omega
          · exact ⟨⟨trivial, trivial⟩, trivial⟩
          · exact ⟨⟨(i + 1, out ++ [p[j].pos]), by omega, collect_yes (f := fun k => atOf p m k) hc this⟩, by dsimp only; omega, rfl, rfl, rfl, rfl, congrArg (AV.int .i64) (w64 (by omega) (by omega)), .refl _, rfl, .of_eq (int_app out [p[j].pos]), trivial⟩
      · rw [show o.sects.length = i by omega, hc]; rfl
theorem spec_BasesOf (l : List GObj) (p : List GPlaced) (m : Int) (hl : l.length ≤ 1099511627776) (hp : p.length ≤ 1099511627776) (hf : ∀ o ∈ l, GObj.fit o) : Con 154 [.ro 2 (GObj.ros l), .ro 3 (GPlaced.ros p), .int .i64 m] (.ow 1 (GInt.ows (basesOf l p m))) [none, none, none] := by
  refine con Tryz.func154 ?_
  have e1 : IntKind.wrap .i64 (((GObj.ros l).length : Int) - 1) = (l.length : Int) - 1 := by rw [List.length_map]; exact w64 (by omega) (by omega)
  refine ⟨[.ro, .ro, .ro], .bool (inI m 0 (l.length - 1)), [none, none, none], by rw [e1]; exact spec_l1In _ _ _, trivial, fun h => ?_, fun h => ?_⟩ <;> simp only [Bool.not_eq_true', Bool.not_eq_false'] at h
  · refine ⟨.of_eq (congrArg (AV.ow 1) ?_), trivial⟩
    rw [basesOf, if_neg (by rw [h]; simp)]; rfl
  · obtain ⟨h0, o, ho, hlt, he⟩ := inI_get h
    have fo := GObj.fit_un (hf o (by rw [he]; exact List.getElem_mem _))
    have hb : basesOf l p m = (collect (fun k => atOf p m k) o.sects.length).getD [] := by rw [basesOf, if_pos h, ho]
    have hlen : (GSect.ros o.sects).length = o.sects.length := by simp
    have hlenp : (GPlaced.ros p).length = p.length := by simp
    rw [hb]
    refine ⟨{ q : Nat × List Int // q.1 ≤ o.sects.length ∧ collect (fun k => atOf p m k) q.1 = some q.2 }, fun q => ⟨[(0, .ro 2 (GObj.ros l)), (1, .ro 3 (GPlaced.ros p)), (2, .int .i64 m), (7, .own 0), (8, .int .i64 q.1.1)], [(0, .rows 1 (GInt.ows q.1.2) [])]⟩, fun q => o.sects.length - q.1.1, ⟨(0, []), by omega, rfl⟩, ?_, ?_⟩
    · exact ⟨rfl, rfl, rfl, rfl, rfl, .refl _, trivial⟩
    · rintro ⟨⟨i, out⟩, hi, hc⟩
      dsimp only at hi hc ⊢
      have hcl := collect_len hc
      refine ⟨h0, _, obj_row ho, ?_⟩
      refine ⟨fun h => ?_, fun h => ⟨.of_eq (congrArg (AV.ow 1) ?_), trivial⟩⟩ <;> simp only [hlen, decide_eq_true_eq, decide_eq_false_iff_not] at h
      · have hi : i < o.sects.length := by omega
        refine ⟨{ q : Nat × Option Int // q.1 ≤ p.length ∧ (match q.2 with | none => ∀ j (h : j < p.length), j < q.1 → pmatch m i p[j] = false | some x => atOf p m i = some x) }, fun q => ⟨[(0, .ro 2 (GObj.ros l)), (1, .ro 3 (GPlaced.ros p)), (2, .int .i64 m), (7, .own 0), (8, .int .i64 i), (9, match q.1.2 with | none => .ff | some _ => .tt), (10, .int .i64 q.1.1)], [(0, .rows 1 (GInt.ows (out ++ q.1.2.toList)) [])]⟩, fun q => p.length - q.1.1, ⟨(0, none), by omega, fun j h h2 => absurd h2 (Nat.not_lt_zero _)⟩, ?_, ?_⟩
        · exact ⟨rfl, rfl, rfl, rfl, rfl, rfl, rfl, .of_eq (congrArg GInt.ows (List.append_nil _).symm), trivial⟩
        · rintro ⟨⟨j, _ | x⟩, hj, hq⟩ <;> dsimp only at hj hq ⊢
          · refine ⟨fun h => ?_, fun h => ?_⟩ <;> simp only [hlenp, decide_eq_true_eq, decide_eq_false_iff_not] at h
            · have hj : j < p.length := by omega
              have hrow := placed_row hj
              have step : pmatch m i p[j] = false → ∀ j' (h : j' < p.length), j' < j + 1 → pmatch m i p[j'] = false := fun h j' h' hj' => by
                rcases Nat.lt_succ_iff_lt_or_eq.1 hj' with h3 | h3
                · exact hq j' h' h3
                · subst h3; exact h
              have hit : pmatch m i p[j] = true → atOf p m i = some p[j].pos := fun h => by rw [atOf, find_hit _ p j hj hq h]; rfl
              have hint : ((GInt.ows (out ++ (none : Option Int).toList)).length + 1) * 8 ≤ 140737488355328 := by
                rw [int_len]; simp; omega
              have hrows : GInt.ows (out ++ (none : Option Int).toList) ++ [[AV.int .i64 p[j].pos]] = GInt.ows (out ++ (some p[j].pos).toList) := by
                rw [Option.toList_none, List.append_nil]; exact int_app out [p[j].pos]
              repeat' (first | refine And.intro (fun (h : _ = true) => ?_) (fun (h : _ = false) => ?_) | refine And.intro (fun (h : _ = false) => ?_) (fun (h : _ = true) => ?_) | refine And.intro (show regOk _ _ = true from by kernel_rfl) ?_ | refine ⟨Int.natCast_nonneg _, _, hrow, ?_⟩ | refine ⟨trivial, hint, ⟨⟨trivial, trivial⟩, trivial⟩, ?_⟩ | (refine ⟨⟨(j + 1, some p[j].pos), hj, hit ?_⟩, Nat.sub_succ_lt_self _ _ hj, ?wk⟩; case wk => (repeat' (first | exact trivial | (refine And.intro (congrArg (AV.int .i64) (w64 ?_ ?_)) ?_; omega; omega) | refine And.intro rfl ?_ | refine And.intro (SimRows.refl _) ?_ | (refine And.intro (SimRows.of_eq ?_) ?_; (first | assumption | rfl)) | (refine And.intro (congrArg (AV.int .i64) ?_) ?_; (first | assumption | omega)) | fail)); done) | (refine ⟨⟨(j + 1, none), hj, step ?_⟩, Nat.sub_succ_lt_self _ _ hj, ?wk⟩; case wk => (repeat' (first | exact trivial | (refine And.intro (congrArg (AV.int .i64) (w64 ?_ ?_)) ?_; omega; omega) | refine And.intro rfl ?_ | refine And.intro (SimRows.refl _) ?_ | (refine And.intro (SimRows.of_eq ?_) ?_; (first | assumption | rfl)) | (refine And.intro (congrArg (AV.int .i64) ?_) ?_; (first | assumption | omega)) | fail)); done) | fail)
              all_goals clear step hit hq hc hf hb hrow hrows hint e1 fo hlen hlenp he ho
              all_goals simp_all [pmatch]
            · refine ⟨.of_eq (congrArg (AV.ow 1) ?_), trivial⟩
              have : atOf p m i = none := by rw [atOf, find_miss _ p fun j' h' => hq j' h' (by omega)]; rfl
              rw [collect_no (f := fun k => atOf p m k) this _ hi]; rfl
          · have fin : ∃ q : { q : Nat × List Int // q.1 ≤ o.sects.length ∧ collect (fun k => atOf p m k) q.1 = some q.2 }, q = ⟨(i + 1, out ++ [x]), by omega, collect_yes (f := fun k => atOf p m k) hc hq⟩ := ⟨⟨(i + 1, out ++ [x]), by omega, collect_yes (f := fun k => atOf p m k) hc hq⟩, rfl⟩
            obtain ⟨q, hq2⟩ := fin
            have hμ : o.sects.length - q.1.1 < o.sects.length - i := by rw [hq2]; dsimp only; omega
            have g1 : IntKind.wrap .i64 ((i : Int) + 1) = (q.1.1 : Int) := by rw [hq2]; exact w64 (by omega) (by omega)
            have g2 : GInt.ows (out ++ (some x).toList) = GInt.ows q.1.2 := by rw [hq2]; rfl
            refine ⟨fun h => ?_, fun h => ?_⟩
            · exact ⟨q, hμ, (by (repeat' (first | exact trivial | (refine And.intro (congrArg (AV.int .i64) (w64 ?_ ?_)) ?_; omega; omega) | refine And.intro rfl ?_ | refine And.intro (SimRows.refl _) ?_ | (refine And.intro (SimRows.of_eq ?_) ?_; (first | assumption | rfl)) | (refine And.intro (congrArg (AV.int .i64) ?_) ?_; (first | assumption | omega)) | fail)); done)⟩
            · exact ⟨q, hμ, (by (repeat' (first | exact trivial | (refine And.intro (congrArg (AV.int .i64) (w64 ?_ ?_)) ?_; omega; omega) | refine And.intro rfl ?_ | refine And.intro (SimRows.refl _) ?_ | (refine And.intro (SimRows.of_eq ?_) ?_; (first | assumption | rfl)) | (refine And.intro (congrArg (AV.int .i64) ?_) ?_; (first | assumption | omega)) | fail)); done)⟩
      · rw [show o.sects.length = i by omega, hc]; rfl
theorem cntI (l : List Int) : cntS GInt.w l = l.length := by
  induction l with
  | nil => rfl
  | cons x l ih =>
    have : GInt.w x = 1 := rfl
    simp only [cntS, ih, List.length_cons]; omega
theorem basesOf_len (l : List GObj) (p : List GPlaced) (m : Int) (hf : ∀ o ∈ l, GObj.fit o) : (basesOf l p m).length ≤ 1099511627776 := by
  rw [basesOf]
  split
  · rename_i h
    obtain ⟨h0, o, ho, hlt, he⟩ := inI_get h
    rw [ho]
    have fo := GObj.fit_un (hf o (by rw [he]; exact List.getElem_mem _))
    simp only
    cases hc : collect (fun k => atOf p m k) o.sects.length with
    | none => simp
    | some r => rw [Option.getD_some, collect_len hc]; exact fo.1.1
  · simp
end Go.Proofs.VI
