/- Contracts of functions, and what they rest on: l18 l19lack l19plain l19impl l19lacks l19lacks2. -/
import Derived.Test.YtjlonhiojgljcaaGreatO4
import Derived.Test.YtjlonhiojgljcaaGreatN2
set_option linter.unusedVariables false
set_option linter.unusedSimpArgs false
set_option maxRecDepth 10000
set_option maxHeartbeats 4000000
namespace Go.Proofs.VI
open Go
def hasG (o : GObj) (s : ByteArray) : Bool := o.globs.any fun g => decide (g.name = s)
def hasL (l : List GObj) (s : ByteArray) : Bool := l.any fun o => hasG o s
theorem spec_l18Has (a : GObj) (s : ByteArray) (hf : GObj.fit a) : Con 292 [.agg (GObj.ro a), .str s] (.bool (hasG a s)) [none, none] := by
  refine con Tryz.func292 ?_
  obtain ⟨f0, f1⟩ := GObj.fit_un hf
  have hlen : (GGlob.ros a.globs).length = a.globs.length := by simp
  refine ⟨{ i : Nat // i ≤ a.globs.length ∧ (a.globs.take i).any (fun g => decide (g.name = s)) = false }, fun i => ⟨[(1, .str s), (2, .ptr 0 0 0), (5, .int .i64 i.1)], [(0, .box (GObj.ro a) [])]⟩, fun i => a.globs.length - i.1, ⟨0, by omega, rfl⟩, ?_, ?_⟩
  · exact ⟨rfl, rfl, rfl, rfl, .refl _, trivial⟩
  · rintro ⟨i, hi, ha⟩
    dsimp only
    refine ⟨fun h => ?_, fun h => ⟨.of_eq (congrArg AV.bool ?_), trivial⟩⟩ <;> simp only [hlen, decide_eq_true_eq, decide_eq_false_iff_not] at h
    · have hi : i < a.globs.length := by omega
      refine ⟨Int.natCast_nonneg _, _, map_get (f := GGlob.ro) _ _ hi, fun h => ⟨.of_eq (congrArg AV.bool ?_), trivial⟩, fun h => ?_⟩
      · exact (any_hit _ a.globs i hi h).symm
      · exact ⟨⟨i + 1, by omega, any_step _ a.globs i hi ha h⟩, by dsimp only; omega, rfl, rfl, rfl, congrArg (AV.int .i64) (w64 (by omega) (by omega)), .refl _, trivial⟩
    · exact (any_miss _ a.globs i (by omega) ha).symm
theorem spec_Has (l : List GObj) (s : ByteArray) (hl : l.length ≤ 1099511627776) (hf : ∀ o ∈ l, GObj.fit o) : Con 272 [.ro 2 (GObj.ros l), .str s] (.bool (hasL l s)) [none, none] := by
  refine con Tryz.func272 ?_
  have hlen : (GObj.ros l).length = l.length := by simp
  refine ⟨{ i : Nat // i ≤ l.length ∧ (l.take i).any (fun o => hasG o s) = false }, fun i => ⟨[(0, .ro 2 (GObj.ros l)), (1, .str s), (5, .int .i64 i.1)], []⟩, fun i => l.length - i.1, ⟨0, by omega, rfl⟩, ?_, ?_⟩
  · exact ⟨rfl, rfl, rfl, trivial⟩
  · rintro ⟨i, hi, ha⟩
    dsimp only
    refine ⟨fun h => ?_, fun h => ⟨.of_eq (congrArg AV.bool ?_), trivial⟩⟩ <;> simp only [hlen, decide_eq_true_eq, decide_eq_false_iff_not] at h
    · have hi : i < l.length := by omega
      refine ⟨Int.natCast_nonneg _, _, map_get (f := GObj.ro) _ _ hi, ?_⟩
      refine ⟨[.ro, .ro], .bool (hasG l[i] s), [none, none], spec_l18Has l[i] s (hf _ (List.getElem_mem _)), trivial, fun h => ⟨.of_eq (congrArg AV.bool ?_), trivial⟩, fun h => ?_⟩
      · exact (any_hit _ l i hi h).symm
      · exact ⟨⟨i + 1, by omega, any_step _ l i hi ha h⟩, by dsimp only; omega, rfl, rfl, congrArg (AV.int .i64) (w64 (by omega) (by omega)), trivial⟩
    · exact (any_miss _ l i (by omega) ha).symm
theorem impl_hasGlob1 (g : GGlob) (s : ByteArray) : Con 295 [.agg (GGlob.ro g), .rp [.str s] 0] (.bool (decide (g.name = s))) [none, none] := by
  refine con Tryz.func295 ?_
  exact ⟨.refl _, trivial⟩
theorem indexGlob (l : List GGlob) (s : ByteArray) (hl : l.length ≤ 1099511627776) : Con 313 [.ro 5 (GGlob.ros l), .fn 295 [.rp [.str s] 0]] (.int .i64 (idxOf (fun g : GGlob => decide (g.name = s)) l)) [none, none] := by
  refine con Tryz.func313 ?_
  have hlen : (GGlob.ros l).length = l.length := by simp
  refine ⟨{ i : Nat // i ≤ l.length ∧ i ≤ l.findIdx (fun g : GGlob => decide (g.name = s)) }, fun i => ⟨[(0, .ro 5 (GGlob.ros l)), (1, .fn 295 [.rp [.str s] 0]), (7, .int .i64 l.length), (8, .int .i64 i.1)], []⟩, fun i => l.length - i.1, ⟨0, by omega, by omega⟩, ?_, ?_⟩
  · exact ⟨rfl, rfl, rfl, congrArg (AV.int .i64) (by rw [hlen]), rfl, trivial⟩
  · rintro ⟨i, hi, hf⟩
    dsimp only
    refine ⟨fun h => ?_, fun h => ⟨.i64 ?_, trivial⟩⟩ <;> simp only [decide_eq_true_eq, decide_eq_false_iff_not] at h
    · have hi : i < l.length := by omega
      refine ⟨Int.natCast_nonneg _, _, map_get (f := GGlob.ro) _ _ hi, [.ro, .ro], .bool (decide (l[i].name = s)), [none, none], impl_hasGlob1 l[i] s, trivial, fun h => ⟨.i64 ?_, trivial⟩, fun h => ?_⟩
      · exact (idxOf_hit _ l i hi hf h).symm
      · exact ⟨⟨i + 1, by omega, idxOf_step _ l i hi hf h⟩, by dsimp only; omega, rfl, rfl, rfl, rfl, congrArg (AV.int .i64) (w64 (by omega) (by omega)), trivial⟩
    · rw [idxOf_miss _ l (by omega)]
theorem containsGlob (l : List GGlob) (s : ByteArray) (hl : l.length ≤ 1099511627776) : Con 294 [.ro 5 (GGlob.ros l), .fn 295 [.rp [.str s] 0]] (.bool (l.any fun g => decide (g.name = s))) [none, none] := by
  refine con Tryz.func294 ?_
  refine ⟨[.ro, .ro], .int .i64 (idxOf (fun g : GGlob => decide (g.name = s)) l), [none, none], indexGlob l s hl, trivial, .of_eq (congrArg AV.bool ?_), trivial⟩
  exact idxOf_any _ l
theorem impl_hasGlob (a : GObj) (s : ByteArray) (hf : GObj.fit a) : Con 276 [.agg (GObj.ro a), .str s] (.bool (hasG a s)) [none, none] := by
  refine con Tryz.func276 ?_
  obtain ⟨f0, f1⟩ := GObj.fit_un hf
  exact ⟨[.ro, .ro], .bool (hasG a s), [none, none], containsGlob a.globs s f1.1, ⟨trivial, trivial⟩, .refl _, trivial⟩
theorem impl_Has1 (o : GObj) (s : ByteArray) (hf : GObj.fit o) : Con 275 [.agg (GObj.ro o), .rp [.str s] 0] (.bool (hasG o s)) [none, none] := by
  refine con Tryz.func275 ?_
  exact ⟨[.ro, .ro], .bool (hasG o s), [none, none], impl_hasGlob o s hf, trivial, .refl _, trivial⟩
theorem indexObj (l : List GObj) (s : ByteArray) (hl : l.length ≤ 1099511627776) (ho : ∀ o ∈ l, GObj.fit o) : Con 293 [.ro 2 (GObj.ros l), .fn 275 [.rp [.str s] 0]] (.int .i64 (idxOf (fun o : GObj => hasG o s) l)) [none, none] := by
  refine con Tryz.func293 ?_
  have hlen : (GObj.ros l).length = l.length := by simp
  refine ⟨{ i : Nat // i ≤ l.length ∧ i ≤ l.findIdx (fun o : GObj => hasG o s) }, fun i => ⟨[(0, .ro 2 (GObj.ros l)), (1, .fn 275 [.rp [.str s] 0]), (7, .int .i64 l.length), (8, .int .i64 i.1)], []⟩, fun i => l.length - i.1, ⟨0, by omega, by omega⟩, ?_, ?_⟩
  · exact ⟨rfl, rfl, rfl, congrArg (AV.int .i64) (by rw [hlen]), rfl, trivial⟩
  · rintro ⟨i, hi, hf⟩
    dsimp only
    refine ⟨fun h => ?_, fun h => ⟨.i64 ?_, trivial⟩⟩ <;> simp only [decide_eq_true_eq, decide_eq_false_iff_not] at h
    · have hi : i < l.length := by omega
      refine ⟨Int.natCast_nonneg _, _, map_get (f := GObj.ro) _ _ hi, [.ro, .ro], .bool (hasG l[i] s), [none, none], impl_Has1 l[i] s (ho _ (List.getElem_mem _)), trivial, fun h => ⟨.i64 ?_, trivial⟩, fun h => ?_⟩
      · exact (idxOf_hit _ l i hi hf h).symm
      · exact ⟨⟨i + 1, by omega, idxOf_step _ l i hi hf h⟩, by dsimp only; omega, rfl, rfl, rfl, rfl, congrArg (AV.int .i64) (w64 (by omega) (by omega)), trivial⟩
    · rw [idxOf_miss _ l (by omega)]
theorem containsObj (l : List GObj) (s : ByteArray) (hl : l.length ≤ 1099511627776) (ho : ∀ o ∈ l, GObj.fit o) : Con 274 [.ro 2 (GObj.ros l), .fn 275 [.rp [.str s] 0]] (.bool (hasL l s)) [none, none] := by
  refine con Tryz.func274 ?_
  refine ⟨[.ro, .ro], .int .i64 (idxOf (fun o : GObj => hasG o s) l), [none, none], indexObj l s hl ho, trivial, .of_eq (congrArg AV.bool ?_), trivial⟩
  exact idxOf_any _ l
theorem impl_Has (l : List GObj) (s : ByteArray) (hl : l.length ≤ 1099511627776) (ho : ∀ o ∈ l, GObj.fit o) : Con 235 [.ro 2 (GObj.ros l), .str s] (.bool (hasL l s)) [none, none] := by
  refine con Tryz.func235 ?_
  exact ⟨[.ro, .ro], .bool (hasL l s), [none, none], containsObj l s hl ho, ⟨trivial, trivial⟩, .refl _, trivial⟩
theorem setS_filter (l : List ByteArray) (p : ByteArray → Bool) : (setS l).filter p = setS (l.filter p) := by
  refine sorted_unique ((setS_sorted l).sublist List.filter_sublist) (setS_sorted _) fun x => ?_
  rw [List.mem_filter, setS_mem, setS_mem, List.mem_filter]
mutual
def glE : GExpr → List ByteArray
  | .mk k _ s l => if k = 12 then [s] else glEL l
def glEL : List GExpr → List ByteArray
  | [] => []
  | e :: l => glE e ++ glEL l
end
/-! what stands in rows, one after the other -/
def cat {α β : Type} (f : α → List β) (l : List α) : List β := (l.map f).flatten
theorem cat_take {α β : Type} (f : α → List β) (l : List α) (i : Nat) (h : i < l.length) : cat f (l.take (i + 1)) = cat f (l.take i) ++ f l[i] := by
  rw [cat, cat, List.take_add_one, List.getElem?_eq_getElem h, List.map_append, List.flatten_append]; simp
theorem cat_pre {α β : Type} (f : α → List β) (l : List α) (i : Nat) : ∃ N, cat f l = cat f (l.take i) ++ N :=
  ⟨cat f (l.drop i), by rw [cat, cat, cat, ← List.flatten_append, ← List.map_append, List.take_append_drop]⟩
theorem cat_len {α β : Type} (f : α → List β) (l : List α) (i : Nat) : (cat f (l.take i)).length ≤ (cat f l).length := by
  obtain ⟨N, e⟩ := cat_pre f l i
  rw [e, List.length_append]; omega
theorem cat_mid {α β : Type} (f : α → List β) (l : List α) (i : Nat) (h : i < l.length) : (cat f (l.take i)).length + (f l[i]).length ≤ (cat f l).length := by
  have e := cat_len f l (i + 1)
  rw [cat_take f l i h, List.length_append] at e
  exact e
theorem cat_bulk {α β : Type} (f : α → List β) (b : α → Nat) (l : List α) (h : ∀ x ∈ l, (f x).length ≤ 1 + b x) : (cat f l).length ≤ bulkS b l := by
  induction l with
  | nil => simp [cat, bulkS]
  | cons x l ih =>
    have h1 := h x List.mem_cons_self
    have h2 := ih fun y hy => h y (List.mem_cons_of_mem _ hy)
    simp only [cat, List.map_cons, List.flatten_cons, List.length_append, bulkS] at h2 ⊢
    omega
theorem glEL_cat (l : List GExpr) : glEL l = cat glE l := by
  induction l with
  | nil => rfl
  | cons e l ih => rw [glEL, ih]; rfl
theorem glE_ne {e : GExpr} (h : e.k ≠ 12) : glE e = cat glE e.l := by
  cases e with
  | mk k n s l =>
    have h : k ≠ 12 := h
    rw [glE, if_neg h, glEL_cat]; rfl
theorem glE_bulk : ∀ e : GExpr, (glE e).length ≤ 1 + GExpr.bulk e := by
  refine GExpr.ind fun e ih => ?_
  by_cases h : e.k = 12
  · cases e with
    | mk k n s l =>
      have h : k = 12 := h
      rw [glE, if_pos h]; simp
  · rw [glE_ne h, GExpr.bulk_un]
    have := cat_bulk glE GExpr.bulk e.l ih
    omega
def glS (s : GSect) : List ByteArray := cat glE s.words
def glG (g : GGlob) : List ByteArray := glE g.e
def glO (o : GObj) : List ByteArray := cat glS o.sects ++ cat glG o.globs
def glA (l : List GObj) : List ByteArray := cat glO l
theorem glO_bulk (o : GObj) : (glO o).length ≤ GObj.bulk o := by
  have h1 := cat_bulk glS GSect.bulk o.sects fun s _ => by
    have := cat_bulk glE GExpr.bulk s.words fun e _ => glE_bulk e
    rw [GSect.bulk_un, glS]; omega
  have h2 := cat_bulk glG GGlob.bulk o.globs fun g _ => by
    have := glE_bulk g.e
    rw [GGlob.bulk_un, glG]; omega
  rw [GObj.bulk_un, glO, List.length_append]; omega
/-- Of these names those that no module has, in order. -/
def lk (l : List GObj) (Y : List ByteArray) : List ByteArray := setS (Y.filter fun s => !hasL l s)
def lackV (l : List GObj) : List ByteArray := lk l (glA l)
theorem lk_len (l : List GObj) (Y : List ByteArray) : (lk l Y).length ≤ Y.length := Nat.le_trans (setS_len _) (List.length_filter_le _ _)
theorem lk_has {l : List GObj} {Y : List ByteArray} {s : ByteArray} (h : hasL l s = true) : lk l (Y ++ [s]) = lk l Y := by
  rw [lk, lk, List.filter_append]; simp [h]
theorem lk_not {l : List GObj} {Y : List ByteArray} {s : ByteArray} (h : hasL l s = false) : lk l (Y ++ [s]) = insS (lk l Y) s := by
  rw [lk, lk, List.filter_append]; simp only [List.filter_cons, h, Bool.not_false, if_true, List.filter_nil]; rw [setS_snoc]
theorem lk_sorted (l : List GObj) (Y : List ByteArray) : SortedS (lk l Y) := setS_sorted _
theorem objs_ok {l : List GObj} (h : objsP l) : ∀ o ∈ l, (∀ s ∈ o.sects, ∀ e ∈ s.words, OkX 6 e) ∧ ∀ g ∈ o.globs, OkX 6 g.e := fun o ho => by
  have hp : objP o := by
    by_cases hp : objP o
    · exact hp
    · have := h o ho; rw [objE, dec_false hp] at this; cases this
  obtain ⟨_, h1, h2⟩ := hp
  have six : ∀ e n, placedE e n = true → OkX 6 e := fun e n h => by
    rw [placedE, Bool.and_eq_true] at h
    exact (okE_six e).1 h.1
  refine ⟨fun s hs e he => ?_, fun g hg => ?_⟩
  · obtain ⟨i, hi, rfl⟩ := List.mem_iff_getElem.1 hs
    obtain ⟨k, hk, rfl⟩ := List.mem_iff_getElem.1 he
    exact six _ _ ((h1 i hi hi).2.2.2 k hk)
  · obtain ⟨i, hi, rfl⟩ := List.mem_iff_getElem.1 hg
    exact six _ _ (h2 i hi hi).2.1
theorem impl_globsInS (e : GExpr) (fe : GExpr.fit e) (hk : e.k ≠ 12) (hn : (glE e).length ≤ 1048576) (ih : ∀ c ∈ e.l, Con 232 [.agg (GExpr.ro c)] (.ow 1 (GString.ows (glE c))) [none]) : Con 232 [.agg (GExpr.ro e)] (.ow 1 (GString.ows (glE e))) [none] := by
  have ll : (GExpr.ros e.l).length = e.l.length := ros_len e.l
  have fu := (GExpr.fit_un fe).1
  rw [glE_ne hk] at hn ⊢
  refine con Tryz.func232 ?_
  refine ⟨fun h => absurd (of_decide_eq_true h) hk, fun h => ?_⟩
  refine ⟨{ i : Nat // i ≤ e.l.length }, fun i => ⟨[(3, .own 0), (14, .ro 4 (GExpr.ros e.l)), (15, .int .i64 e.l.length), (16, .int .i64 i.1)], [(0, .rows 1 (GString.ows (cat glE (e.l.take i.1))) [])]⟩, fun i => e.l.length - i.1, ⟨0, Nat.zero_le _⟩, ?_, ?_⟩
  · exact ⟨rfl, congrArg (AV.int .i64) (by rw [ll]), rfl, rfl, .refl _, trivial⟩
  · rintro ⟨i, hi⟩
    dsimp only
    refine ⟨fun h => ?_, fun h => ?_⟩ <;> simp only [decide_eq_true_eq, decide_eq_false_iff_not] at h
    · have hi : i < e.l.length := by omega
      have hrow : (GExpr.ros e.l)[i]? = some (GExpr.ro e.l[i]) := ros_get e.l i hi
      have hm := cat_mid glE e.l i hi
      refine ⟨Int.natCast_nonneg _, _, hrow, ?_⟩
      refine ⟨[.ro], .ow 1 (GString.ows (glE e.l[i])), [none], ih _ (List.getElem_mem hi), trivial, ?_⟩
      refine ⟨trivial, (by show ((GString.ows _).length + (GString.ows _).length) * 16 ≤ _; rw [str_len, str_len]; omega), str_plain _, ?_⟩
      refine ⟨⟨i + 1, hi⟩, Nat.sub_succ_lt_self _ _ hi, rfl, rfl, congrArg (AV.int .i64) (w64 (by omega) (by omega)), rfl, SimRows.of_eq ?_, trivial⟩
      rw [cat_take _ _ _ hi]
      exact strs_cat _ _
    · have hi : i = e.l.length := by omega
      subst hi
      rw [List.take_length]
      exact ⟨.refl _, trivial⟩
theorem impl_globsIn {h : Nat} {e : GExpr} (x : OkX h e) : GExpr.fit e → (glE e).length ≤ 1048576 → Con 232 [.agg (GExpr.ro e)] (.ow 1 (GString.ows (glE e))) [none] := by
  have leaf : ∀ {k n : Int} {s : ByteArray}, Con 232 [.agg (GExpr.ro (.mk 12 n s []))] (.ow 1 (GString.ows (glE (.mk 12 n s [])))) [none] := fun {k n s} => by
    refine con Tryz.func232 ?_
    refine ⟨fun h => ?_, fun h => absurd (show (GExpr.mk 12 n s []).k = 12 from rfl) (of_decide_eq_false h)⟩
    exact ⟨.refl _, trivial⟩
  induction x with
  | num h0 h1 => exact fun fe hn => impl_globsInS _ fe (by simp [k_mk]) hn fun c hc => by cases hc
  | @name m k s hk hs =>
    intro fe hn
    rcases hk with rfl | rfl
    · exact impl_globsInS _ fe (by simp [k_mk]) hn fun c hc => by cases hc
    · exact leaf (k := 0)
  | here => exact fun fe hn => impl_globsInS _ fe (by simp [k_mk]) hn fun c hc => by cases hc
  | sect h0 h1 => exact fun fe hn => impl_globsInS _ fe (by simp [k_mk]) hn fun c hc => by cases hc
  | @neg m a ha ih =>
    intro fe hn
    have fu := (GExpr.fit_un fe).2
    refine impl_globsInS _ fe (by simp [k_mk]) hn fun c hc => ?_
    have e : c = a := by simpa [l_mk] using hc
    rw [e]
    refine ih (fu a (by simp [l_mk])) (Nat.le_trans ?_ hn)
    simp [glE, glEL]
  | @two m k a b h0 h1 ha hb iha ihb =>
    intro fe hn
    have fu := (GExpr.fit_un fe).2
    have hk : (GExpr.mk k 0 ⟨#[]⟩ [a, b]).k ≠ 12 := by rw [k_mk]; omega
    have e2 : glE (.mk k 0 ⟨#[]⟩ [a, b]) = glE a ++ glE b := by rw [glE_ne hk]; simp [l_mk, cat]
    rw [e2, List.length_append] at hn
    refine impl_globsInS _ fe hk (by rw [e2, List.length_append]; exact hn) fun c hc => ?_
    have e : c = a ∨ c = b := by simpa [l_mk] using hc
    rcases e with e | e <;> rw [e]
    · exact iha (fu a (by simp [l_mk])) (by omega)
    · exact ihb (fu b (by simp [l_mk])) (by omega)
theorem spec_l19TermS (l : List GObj) (hl : l.length ≤ 1099511627776) (hf : ∀ o ∈ l, GObj.fit o) (e : GExpr) (fe : GExpr.fit e) (hk : e.k = 12 → e.l = []) (Y : List ByteArray) (hY : Y.length + (glE e).length ≤ 1048576) (ih : ∀ c ∈ e.l, ∀ Y : List ByteArray, Y.length + (glE c).length ≤ 1048576 → Con 229 [.ro 2 (GObj.ros l), .agg (GExpr.ro c), .ro 1 (GString.ros (lk l Y))] (.ro 1 (GString.ros (lk l (Y ++ glE c)))) [none, none, none]) : Con 229 [.ro 2 (GObj.ros l), .agg (GExpr.ro e), .ro 1 (GString.ros (lk l Y))] (.ro 1 (GString.ros (lk l (Y ++ glE e)))) [none, none, none] := by
  have ll : (GExpr.ros e.l).length = e.l.length := ros_len e.l
  have fu := (GExpr.fit_un fe).1
  obtain ⟨O, hO1, hO2, hO3⟩ : ∃ O : List ByteArray, glE e = O ++ cat glE e.l ∧ (e.k ≠ 12 → O = []) ∧ (e.k = 12 → O = [e.s]) := by
    by_cases h : e.k = 12
    · refine ⟨[e.s], ?_, fun g => absurd h g, fun _ => rfl⟩
      rw [hk h]
      cases e with
      | mk k n s l => rw [glE, if_pos (show k = 12 from h)]; simp [cat, GExpr.s]
    · exact ⟨[], by rw [glE_ne h]; rfl, fun _ => rfl, fun g => absurd g h⟩
  have hYl := lk_len l Y
  have hOl : (glE e).length = O.length + (cat glE e.l).length := by rw [hO1, List.length_append]
  have cS := spec_l15Sorted (lk l Y) e.s (by omega) (lk_sorted l Y)
  have cH := spec_Has l e.s hl hf
  rw [hO1, ← List.append_assoc]
  have hY2 : (Y ++ O).length + (cat glE e.l).length ≤ 1048576 := by rw [List.length_append]; omega
  obtain ⟨Z, hZ⟩ : ∃ Z, Z = Y ++ O := ⟨_, rfl⟩
  rw [← hZ] at hY2 ⊢
  refine con Tryz.func229 ?_
  refine ⟨fun h => ⟨[.ro, .ro], .bool (hasL l e.s), [none, none], cH, trivial, fun h2 => ⟨[.ro, .ro], .ro 1 (GString.ros (insS (lk l Y) e.s)), [none, none], cS, trivial, ?_⟩, fun h2 => ?_⟩, fun h => ?_⟩
  all_goals
    refine ⟨{ i : Nat // i ≤ e.l.length }, fun i => ⟨[(0, .ro 2 (GObj.ros l)), (2, .ro 1 (GString.ros (lk l (Z ++ cat glE (e.l.take i.1))))), (4, .ptr 0 0 0), (7, .int .i64 i.1)], [(0, .box (GExpr.ro e) [])]⟩, fun i => e.l.length - i.1, ⟨0, Nat.zero_le _⟩, ?_, ?_⟩
    · refine ⟨rfl, ?_, rfl, rfl, rfl, .refl _, trivial⟩
      show AV.ro 1 _ = AV.ro 1 (GString.ros (lk l (Z ++ [])))
      rw [List.append_nil, hZ]
      first
        | (rw [hO2 (of_decide_eq_false h), List.append_nil]; done)
        | (rw [hO3 (of_decide_eq_true h), lk_not (by simpa using h2)]; done)
        | (rw [hO3 (of_decide_eq_true h), lk_has (by simpa using h2)]; done)
    · rintro ⟨i, hi⟩
      dsimp only
      refine ⟨fun h => ?_, fun h => ?_⟩ <;> simp only [ll, decide_eq_true_eq, decide_eq_false_iff_not] at h
      · have hi : i < e.l.length := by omega
        have hrow : (GExpr.ros e.l)[i]? = some (GExpr.ro e.l[i]) := ros_get e.l i hi
        have hm := cat_mid glE e.l i hi
        refine ⟨Int.natCast_nonneg _, _, hrow, ?_⟩
        refine ⟨[.ro, .ro, .ro], .ro 1 (GString.ros (lk l ((Z ++ cat glE (e.l.take i)) ++ glE e.l[i]))), [none, none, none], ih _ (List.getElem_mem hi) _ (by rw [List.length_append]; omega), trivial, ?_⟩
        refine ⟨⟨i + 1, hi⟩, Nat.sub_succ_lt_self _ _ hi, rfl, congrArg (fun q => AV.ro 1 (GString.ros (lk l q))) (by rw [cat_take _ _ _ hi, List.append_assoc]), rfl, rfl, congrArg (AV.int .i64) (w64 (by omega) (by omega)), .refl _, trivial⟩
      · have hi : i = e.l.length := by omega
        subst hi
        rw [List.take_length]
        exact ⟨.refl _, trivial⟩
theorem spec_l19Term (l : List GObj) (hl : l.length ≤ 1099511627776) (hf : ∀ o ∈ l, GObj.fit o) {h : Nat} {e : GExpr} (x : OkX h e) : GExpr.fit e → ∀ Y : List ByteArray, Y.length + (glE e).length ≤ 1048576 → Con 229 [.ro 2 (GObj.ros l), .agg (GExpr.ro e), .ro 1 (GString.ros (lk l Y))] (.ro 1 (GString.ros (lk l (Y ++ glE e)))) [none, none, none] := by
  induction x with
  | num h0 h1 => exact fun fe Y hY => spec_l19TermS l hl hf _ fe (fun _ => rfl) Y hY fun c hc => by cases hc
  | name hk hs => exact fun fe Y hY => spec_l19TermS l hl hf _ fe (fun _ => rfl) Y hY fun c hc => by cases hc
  | here => exact fun fe Y hY => spec_l19TermS l hl hf _ fe (fun _ => rfl) Y hY fun c hc => by cases hc
  | sect h0 h1 => exact fun fe Y hY => spec_l19TermS l hl hf _ fe (fun _ => rfl) Y hY fun c hc => by cases hc
  | @neg m a ha ih =>
    intro fe Y hY
    have fu := (GExpr.fit_un fe).2
    refine spec_l19TermS l hl hf _ fe (fun g => absurd g (by simp [k_mk])) Y hY fun c hc => ?_
    have e : c = a := by simpa [l_mk] using hc
    rw [e]
    exact ih (fu a (by simp [l_mk]))
  | @two m k a b h0 h1 ha hb iha ihb =>
    intro fe Y hY
    have fu := (GExpr.fit_un fe).2
    refine spec_l19TermS l hl hf _ fe (fun g => absurd (show k = 12 from g) (by omega)) Y hY fun c hc => ?_
    have e : c = a ∨ c = b := by simpa [l_mk] using hc
    rcases e with e | e <;> rw [e]
    · exact iha (fu a (by simp [l_mk]))
    · exact ihb (fu b (by simp [l_mk]))
theorem impl_Lacks1 (l : List GObj) (s : ByteArray) (hl : l.length ≤ 1099511627776) (ho : ∀ o ∈ l, GObj.fit o) : Con 234 [.str s, .rp [.ro 2 (GObj.ros l)] 0] (.bool (hasL l s)) [none, none] := by
  refine con Tryz.func234 ?_
  exact ⟨[.ro, .ro], .bool (hasL l s), [none, none], impl_Has l s hl ho, trivial, .refl _, trivial⟩
theorem index_Lacks (l : List GString) (L : List GObj) (hL : L.length ≤ 1099511627776) (ho : ∀ o ∈ L, GObj.fit o) (hl : l.length ≤ 1099511627776) : Con 273 [.ro 1 (GString.ros l), .fn 234 [.rp [.ro 2 (GObj.ros L)] 0]] (.int .i64 (idxOf (fun s : GString => hasL L s) l)) [none, none] := by
  rw [GString.ros_eq]
  refine con Tryz.func273 ?_
  have hlen : (l.map GString.ro).length = l.length := by simp
  refine ⟨{ i : Nat // i ≤ l.length ∧ i ≤ l.findIdx (fun s : GString => hasL L s) }, fun i => ⟨[(0, .ro 1 (l.map GString.ro)), (1, .fn 234 [.rp [.ro 2 (GObj.ros L)] 0]), (7, .int .i64 l.length), (8, .int .i64 i.1)], []⟩, fun i => l.length - i.1, ⟨0, by omega, by omega⟩, ?_, ?_⟩
  · exact ⟨rfl, rfl, rfl, congrArg (AV.int .i64) (by rw [hlen]), rfl, trivial⟩
  · rintro ⟨i, hi, hf⟩
    dsimp only
    refine ⟨fun h => ?_, fun h => ⟨.i64 ?_, trivial⟩⟩ <;> simp only [decide_eq_true_eq, decide_eq_false_iff_not] at h
    · have hi : i < l.length := by omega
      refine ⟨Int.natCast_nonneg _, _, map_get (f := GString.ro) _ _ hi, [.ro, .ro], .bool ((fun s : GString => hasL L s) l[i]), [none, none], impl_Lacks1 L l[i] hL ho, trivial, fun h => ⟨.i64 ?_, trivial⟩, fun h => ?_⟩
      · exact (idxOf_hit _ l i hi hf h).symm
      · exact ⟨⟨i + 1, by omega, idxOf_step _ l i hi hf h⟩, by dsimp only; omega, rfl, rfl, rfl, rfl, congrArg (AV.int .i64) (w64 (by omega) (by omega)), trivial⟩
    · rw [idxOf_miss _ l (by omega)]

theorem filter_idx {p : GString → Bool} : ∀ {S : List GString} {k : Nat}, S.findIdx p = k → (S.take k).filter (fun s => !p s) = S.take k
  | [], _, _ => by simp
  | x :: S, k, h => by
    rw [List.findIdx_cons] at h
    cases hp : p x with
    | true => rw [hp] at h; simp at h; subst h; rfl
    | false =>
      rw [hp] at h
      simp only [cond_false] at h
      subst h
      rw [List.take_succ_cons, List.filter_cons, hp]
      simp only [Bool.not_false, if_true]
      rw [filter_idx rfl]
theorem con_DelF (l : List GObj) (hl : l.length ≤ 1099511627776) (ho : ∀ o ∈ l, GObj.fit o) (S : List GString) (hS : S.length ≤ 1099511627776) : Con 233 [.ow 1 (GString.ows S), .fn 234 [.rp [.ro 2 (GObj.ros l)] 0]] (.ow 1 (GString.ows (S.filter fun s => !hasL l s))) [none, none] := by
  have cI := index_Lacks S l hl ho hS
  have hi0 := filter_idx (p := fun s => hasL l s) (S := S) rfl
  have hle : S.findIdx (fun s => hasL l s) ≤ S.length := List.findIdx_le_length
  refine con Tryz.func233 ?_
  by_cases hn : S.findIdx (fun s => hasL l s) = S.length
  · have e : idxOf (fun s : GString => hasL l s) S = -1 := by rw [idxOf, hn, if_neg (Nat.lt_irrefl _)]
    rw [e] at cI
    rw [hn, List.take_length] at hi0
    refine ⟨[.ro, .ro], .int .i64 (-1), [none, none], by rw [GString.roo]; exact cI, ⟨trivial, trivial⟩, fun h => ?_, fun h => absurd h (by decide)⟩
    rw [hi0]
    exact ⟨.refl _, trivial⟩
  obtain ⟨k, hk⟩ : ∃ k, S.findIdx (fun s => hasL l s) = k := ⟨_, rfl⟩
  have e : idxOf (fun s : GString => hasL l s) S = (k : Int) := by rw [idxOf, hk, if_pos (by omega)]
  have hkS : k < S.length := by omega
  rw [e] at cI
  rw [hk] at hi0
  have hdel : hasL l S[k] = true := by have := List.findIdx_getElem (w := by omega) (p := fun s => hasL l s) (xs := S); simpa [hk] using this
  refine ⟨[.ro, .ro], .int .i64 k, [none, none], by rw [GString.roo]; exact cI, ⟨trivial, trivial⟩, fun h => absurd (of_decide_eq_true h) (by omega), fun h => ?_⟩
  have e1 : IntKind.wrap .i64 ((k : Int) + 1) = ((k + 1 : Nat) : Int) := by rw [w64 (by omega) (by omega)]; rfl
  refine ⟨{ t : Nat × Nat × List GString // t.1 < t.2.1 ∧ t.2.1 ≤ S.length ∧ t.2.2.length = S.length ∧ t.2.2.take t.1 = (S.take t.2.1).filter (fun s => !hasL l s) ∧ t.2.2.drop t.2.1 = S.drop t.2.1 }, fun t => ⟨[(0, .own 0), (1, .fn 234 [.rp [.ro 2 (GObj.ros l)] 0]), (5, .int .i64 t.1.1), (6, .int .i64 t.1.2.1)], [(0, .rows 1 (GString.ows t.1.2.2) [])]⟩, fun t => S.length - t.1.2.1, ⟨(k, k + 1, S), Nat.lt_succ_self _, hkS, rfl, ?_, rfl⟩, ?_, ?_⟩
  · dsimp only
    rw [List.take_add_one, List.getElem?_eq_getElem hkS, List.filter_append, hi0]
    simp [hdel]
  · exact ⟨rfl, rfl, rfl, congrArg (AV.int .i64) e1, rfl, .refl _, trivial⟩
  · rintro ⟨⟨i, j, R⟩, h1, h2, h3, h4, h5⟩
    dsimp only at h1 h2 h3 h4 h5 ⊢
    have lR : ((GString.ows R).length : Int) = S.length := by rw [str_len, h3]
    refine ⟨fun h => ?_, fun h => ?_⟩ <;> simp only [lR, decide_eq_true_eq, decide_eq_false_iff_not] at h
    · have hj : j < S.length := by omega
      have hjR : j < R.length := by omega
      have hRj : R[j] = S[j] := by
        have := congrArg (fun q => q[0]?) h5
        simpa [List.getElem?_drop, List.getElem?_eq_getElem, hj, hjR] using this
      have hrow : (GString.ows R)[((j : Nat) : Int).toNat]? = some [AV.str S[j]] := by
        rw [Int.toNat_natCast, ← hRj]; exact map_get _ _ hjR
      have hrow2 : (GString.ows R)[((i : Nat) : Int).toNat]? = some [AV.str (R[i]'(by omega))] := by
        rw [Int.toNat_natCast]; exact map_get _ _ (by omega)
      have ht : (S.take (j + 1)).filter (fun s => !hasL l s) = (S.take j).filter (fun s => !hasL l s) ++ (if hasL l S[j] = true then [] else [S[j]]) := by
        rw [List.take_add_one, List.getElem?_eq_getElem hj, List.filter_append]
        by_cases g : hasL l S[j] = true
        · rw [if_pos g]; simp [g]
        · rw [if_neg g]; simp [g]
      have hd : R.drop (j + 1) = S.drop (j + 1) := by
        have := congrArg (List.drop 1) h5
        rwa [List.drop_drop, List.drop_drop] at this
      refine ⟨by omega, by rw [lR]; omega, _, hrow, ?_⟩
      refine ⟨[.ro, .ro], .bool (hasL l S[j]), [none, none], impl_Lacks1 l S[j] hl ho, trivial, fun h6 => ?_, fun h6 => ?_⟩
      · have h6 : hasL l S[j] = false := by simpa using h6
        rw [h6, if_neg (by decide)] at ht
        refine ⟨by omega, by rw [lR]; omega, _, hrow2, ?_⟩
        refine ⟨⟨(i + 1, j + 1, R.set i S[j]), Nat.succ_lt_succ h1, hj, by rw [List.length_set]; exact h3, ?_, ?_⟩, Nat.sub_succ_lt_self _ _ hj, rfl, rfl, congrArg (AV.int .i64) (w64 (by omega) (by omega)), congrArg (AV.int .i64) (w64 (by omega) (by omega)), rfl, SimRows.of_eq ?_, trivial⟩
        · dsimp only
          rw [ht, ← h4, List.take_add_one, List.getElem?_set_self (by omega), List.take_set_of_le (Nat.le_refl _)]; rfl
        · dsimp only
          rw [List.drop_set_of_lt (by omega)]; exact hd
        · rw [Int.toNat_natCast]
          exact (List.map_set ..).symm
      · have h6 : hasL l S[j] = true := by simpa using h6
        rw [h6, if_pos rfl, List.append_nil] at ht
        exact ⟨⟨(i, j + 1, R), Nat.lt_succ_of_lt h1, hj, h3, by dsimp only; rw [ht]; exact h4, hd⟩, Nat.sub_succ_lt_self _ _ hj, rfl, rfl, rfl, congrArg (AV.int .i64) (w64 (by omega) (by omega)), rfl, .refl _, trivial⟩
    · have hj : j = S.length := by omega
      subst hj
      rw [List.take_length] at h4
      have fin : (((GString.ows R).take i ++ (List.replicate ((GString.ows R).length - i) [AV.str ⟨#[]⟩] ++ (GString.ows R).drop (i + ((GString.ows R).length - i)))).drop 0).take i = GString.ows (S.filter fun s => !hasL l s) := by
        rw [← h4, List.drop_zero]
        have : ((GString.ows R).take i).length = i := by rw [List.length_take, str_len]; omega
        rw [List.take_append_of_le_length (by omega), List.take_of_length_le (by omega)]
        exact List.map_take.symm
      refine ⟨by omega, by rw [lR]; omega, by omega, ?_, ?_⟩
      · simp; omega
      · refine ⟨.of_eq ?_, trivial⟩
        rw [Int.toNat_natCast]
        exact congrArg (AV.ow 1) fin
theorem objs_roL (l : List GObj) : toRoL [AV.ro 2 (GObj.ros l)] = [AV.ro 2 (GObj.ros l)] := by
  show [AV.ro 2 (toRoRows (GObj.ros l))] = _
  rw [← GObj.roo, toRoRows_idem]
theorem impl_Lacks (l : List GObj) (hl : l.length ≤ 1099511627776) (hf : ∀ o ∈ l, GObj.fit o) (hp : objsP l) (hB : (glA l).length ≤ 1048576) : Con 163 [.ro 2 (GObj.ros l)] (.ow 1 (GString.ows (lackV l))) [none] := by
  have lm : (GObj.ros l).length = l.length := by simp
  have hX := objs_ok hp
  refine con Tryz.func163 ?_
  refine ⟨{ i : Nat // i ≤ l.length }, fun i => ⟨[(1, .ptr 0 0 0), (3, .own 1), (13, .ro 2 (GObj.ros l)), (14, .int .i64 l.length), (15, .int .i64 i.1)], [(0, .box [.ro 2 (GObj.ros l)] []), (1, .rows 1 (GString.ows (cat glO (l.take i.1))) [])]⟩, fun i => l.length - i.1, ⟨0, Nat.zero_le _⟩, ?_, ?_⟩
  · exact ⟨rfl, rfl, rfl, congrArg (AV.int .i64) (by rw [lm]), rfl, .refl _, rfl, .refl _, trivial⟩
  · rintro ⟨i, hi⟩
    dsimp only
    refine ⟨fun h => ?_, fun h => ?_⟩ <;> simp only [decide_eq_true_eq, decide_eq_false_iff_not] at h
    · have hi : i < l.length := by omega
      have hro := obj_row (List.getElem?_eq_getElem hi)
      have fo := GObj.fit_un (hf _ (List.getElem_mem hi))
      have xo := hX _ (List.getElem_mem hi)
      have hm := cat_mid glO l i hi
      have hnx := cat_take glO l i hi
      have hB : (cat glO l).length ≤ 1048576 := hB
      obtain ⟨o, hO⟩ : ∃ o, o = l[i] := ⟨_, rfl⟩
      simp only [← hO] at hro fo xo hm hnx
      have lS : (GSect.ros o.sects).length = o.sects.length := by simp
      have lG : (GGlob.ros o.globs).length = o.globs.length := by simp
      have hoO : (glO o).length = (cat glS o.sects).length + (cat glG o.globs).length := by rw [glO, List.length_append]
      generalize hA : cat glO (l.take i) = A at *
      refine ⟨Int.natCast_nonneg _, _, hro, ?_⟩
      refine ⟨{ k : Nat // k ≤ o.sects.length }, fun k => ⟨[(1, .ptr 0 0 0), (3, .own 1), (5, .ptr 2 0 0), (13, .ro 2 (GObj.ros l)), (14, .int .i64 l.length), (15, .int .i64 i), (20, .ro 3 (GSect.ros o.sects)), (21, .int .i64 o.sects.length), (22, .int .i64 k.1)], [(0, .box [.ro 2 (GObj.ros l)] []), (1, .rows 1 (GString.ows (A ++ cat glS (o.sects.take k.1))) []), (2, .box (GObj.ro o) [])]⟩, fun k => o.sects.length - k.1, ⟨0, Nat.zero_le _⟩, ?_, ?_⟩
      · dsimp only
        exact ⟨rfl, rfl, rfl, rfl, rfl, rfl, rfl, rfl, congrArg (AV.int .i64) (by rw [lS]), rfl, .refl _, rfl, SimRows.of_eq (congrArg GString.ows (List.append_nil A).symm), .refl _, trivial⟩
      · rintro ⟨k, hk⟩
        dsimp only
        refine ⟨fun h => ?_, fun h => ?_⟩ <;> simp only [decide_eq_true_eq, decide_eq_false_iff_not] at h
        · have hk : k < o.sects.length := by omega
          have hrs := sect_at hk
          have fs := GSect.fit_un (fo.1.2 _ (List.getElem_mem hk))
          have xs := xo.1 _ (List.getElem_mem hk)
          have hm2 := cat_mid glS o.sects k hk
          have hnx2 := cat_take glS o.sects k hk
          obtain ⟨s, hS⟩ : ∃ s, s = o.sects[k] := ⟨_, rfl⟩
          simp only [← hS] at hrs fs xs hm2 hnx2
          have lW : (GExpr.ros s.words).length = s.words.length := ros_len s.words
          have hsS : (glS s).length = (cat glE s.words).length := rfl
          generalize hA2 : A ++ cat glS (o.sects.take k) = A2 at *
          have lA2 : A2.length = A.length + (cat glS (o.sects.take k)).length := by rw [← hA2, List.length_append]
          refine ⟨Int.natCast_nonneg _, _, hrs, ?_⟩
          refine ⟨{ j : Nat // j ≤ s.words.length }, fun j => ⟨[(1, .ptr 0 0 0), (3, .own 1), (5, .ptr 2 0 0), (13, .ro 2 (GObj.ros l)), (14, .int .i64 l.length), (15, .int .i64 i), (20, .ro 3 (GSect.ros o.sects)), (21, .int .i64 o.sects.length), (22, .int .i64 k), (27, .ro 4 (GExpr.ros s.words)), (28, .int .i64 s.words.length), (29, .int .i64 j.1)], [(0, .box [.ro 2 (GObj.ros l)] []), (1, .rows 1 (GString.ows (A2 ++ cat glE (s.words.take j.1))) []), (2, .box (GObj.ro o) [])]⟩, fun j => s.words.length - j.1, ⟨0, Nat.zero_le _⟩, ?_, ?_⟩
          · dsimp only
            exact ⟨rfl, rfl, rfl, rfl, rfl, rfl, rfl, rfl, rfl, rfl, rfl, congrArg (AV.int .i64) (by rw [lW]), rfl, .refl _, rfl, SimRows.of_eq (congrArg GString.ows (List.append_nil A2).symm), .refl _, trivial⟩
          · rintro ⟨j, hj⟩
            dsimp only
            refine ⟨fun h => ?_, fun h => ?_⟩ <;> simp only [decide_eq_true_eq, decide_eq_false_iff_not] at h
            · have hj : j < s.words.length := by omega
              have hrw : (GExpr.ros s.words)[j]? = some (GExpr.ro s.words[j]) := ros_get s.words j hj
              have hm3 := cat_mid glE s.words j hj
              refine ⟨Int.natCast_nonneg _, _, hrw, ?_⟩
              refine ⟨[.ro], .ow 1 (GString.ows (glE s.words[j])), [none], impl_globsIn (xs _ (List.getElem_mem hj)) (fs.2 _ (List.getElem_mem hj)) (by omega), trivial, ?_⟩
              refine ⟨trivial, (by show ((GString.ows _).length + (GString.ows _).length) * 16 ≤ _; rw [str_len, str_len, List.length_append]; omega), str_plain _, ?_⟩
              refine ⟨⟨j + 1, hj⟩, Nat.sub_succ_lt_self _ _ hj, rfl, rfl, rfl, rfl, rfl, rfl, rfl, rfl, rfl, rfl, rfl, rfl, congrArg (AV.int .i64) (w64 (by omega) (by omega)), .refl _, rfl, SimRows.of_eq ?_, .refl _, trivial⟩
              rw [cat_take _ _ _ hj, ← List.append_assoc]
              exact strs_cat _ _
            · have hj : j = s.words.length := by omega
              subst hj
              rw [List.take_length]
              refine ⟨⟨k + 1, hk⟩, Nat.sub_succ_lt_self _ _ hk, ?_⟩
              dsimp only
              rw [hnx2, ← List.append_assoc, hA2]
              exact ⟨rfl, rfl, rfl, rfl, rfl, rfl, rfl, rfl, rfl, congrArg (AV.int .i64) (w64 (by omega) (by omega)), .refl _, rfl, .refl _, .refl _, trivial⟩
        · have hk : k = o.sects.length := by omega
          subst hk
          rw [List.take_length]
          generalize hA2 : A ++ cat glS o.sects = A2 at *
          have lA2 : A2.length = A.length + (cat glS o.sects).length := by rw [← hA2, List.length_append]
          refine ⟨{ j : Nat // j ≤ o.globs.length }, fun j => ⟨[(1, .ptr 0 0 0), (3, .own 1), (13, .ro 2 (GObj.ros l)), (14, .int .i64 l.length), (15, .int .i64 i), (40, .ro 5 (GGlob.ros o.globs)), (41, .int .i64 o.globs.length), (42, .int .i64 j.1)], [(0, .box [.ro 2 (GObj.ros l)] []), (1, .rows 1 (GString.ows (A2 ++ cat glG (o.globs.take j.1))) [])]⟩, fun j => o.globs.length - j.1, ⟨0, Nat.zero_le _⟩, ?_, ?_⟩
          · dsimp only
            exact ⟨rfl, rfl, rfl, rfl, rfl, rfl, congrArg (AV.int .i64) (by rw [lG]), rfl, .refl _, rfl, SimRows.of_eq (congrArg GString.ows (List.append_nil A2).symm), trivial⟩
          · rintro ⟨j, hj⟩
            dsimp only
            refine ⟨fun h => ?_, fun h => ?_⟩ <;> simp only [decide_eq_true_eq, decide_eq_false_iff_not] at h
            · have hj : j < o.globs.length := by omega
              have hrg := glob_row hj
              have fg := GGlob.fit_un (fo.2.2 _ (List.getElem_mem hj))
              have hm3 := cat_mid glG o.globs j hj
              have hgl : (glG o.globs[j]).length = (glE o.globs[j].e).length := rfl
              refine ⟨Int.natCast_nonneg _, _, hrg, ?_⟩
              refine ⟨[.ro], .ow 1 (GString.ows (glE o.globs[j].e)), [none], impl_globsIn (xo.2 _ (List.getElem_mem hj)) fg (by omega), trivial, ?_⟩
              refine ⟨trivial, (by show ((GString.ows _).length + (GString.ows _).length) * 16 ≤ _; rw [str_len, str_len, List.length_append]; omega), str_plain _, ?_⟩
              refine ⟨⟨j + 1, hj⟩, Nat.sub_succ_lt_self _ _ hj, rfl, rfl, rfl, rfl, rfl, rfl, rfl, congrArg (AV.int .i64) (w64 (by omega) (by omega)), .refl _, rfl, SimRows.of_eq ?_, trivial⟩
              rw [cat_take _ _ _ hj, ← List.append_assoc]
              exact strs_cat _ _
            · have hj : j = o.globs.length := by omega
              subst hj
              rw [List.take_length]
              refine ⟨⟨i + 1, hi⟩, Nat.sub_succ_lt_self _ _ hi, ?_⟩
              dsimp only
              rw [hnx, glO, ← List.append_assoc, hA2]
              exact ⟨rfl, rfl, rfl, rfl, congrArg (AV.int .i64) (w64 (by omega) (by omega)), .refl _, rfl, .refl _, trivial⟩
    · have hi : i = l.length := by omega
      subst hi
      rw [List.take_length]
      have hB : (cat glO l).length ≤ 1048576 := hB
      refine ⟨[.muts 1], .tup [], [some (.ow 1 (GString.ows (sortS (cat glO l))))], con_Sort (cat glO l) (by omega), trivial, [.mv], .ow 1 (GString.ows (cutS (sortS (cat glO l)))), [none], con_Compact (sortS (cat glO l)) (by rw [sortS_len]; omega), trivial, ?_⟩
      have hE : lackV l = (cutS (sortS (cat glO l))).filter fun s => !hasL l s := by rw [cut_sort, setS_filter]; rfl
      have hln : (cutS (sortS (cat glO l))).length ≤ 1048576 := Nat.le_trans (cutS_len _) (by rw [sortS_len]; exact hB)
      refine ⟨[.mv, .ro], .ow 1 (GString.ows (lackV l)), [none, none], by rw [hE, objs_roL]; exact con_DelF l hl hf (cutS (sortS (cat glO l))) (by omega), ⟨GString.noRo_ows (lackV l) fun x _ => GString.noRo_ow x, trivial⟩, ?_⟩
      exact ⟨.refl _, trivial⟩
theorem spec_Lacks (l : List GObj) (hl : l.length ≤ 1099511627776) (hf : ∀ o ∈ l, GObj.fit o) (hp : objsP l) (hB : (glA l).length ≤ 1048576) : Con 160 [.ro 2 (GObj.ros l)] (.ro 1 (GString.ros (lackV l))) [none] := by
  have lm : (GObj.ros l).length = l.length := by simp
  have hX := objs_ok hp
  refine con Tryz.func160 ?_
  refine ⟨{ i : Nat // i ≤ l.length }, fun i => ⟨[(0, .ro 2 (GObj.ros l)), (3, .ro 1 (GString.ros (lk l (cat glO (l.take i.1))))), (4, .int .i64 i.1)], []⟩, fun i => l.length - i.1, ⟨0, Nat.zero_le _⟩, ?_, ?_⟩
  · exact ⟨rfl, rfl, rfl, trivial⟩
  · rintro ⟨i, hi⟩
    dsimp only
    refine ⟨fun h => ?_, fun h => ?_⟩ <;> simp only [lm, decide_eq_true_eq, decide_eq_false_iff_not] at h
    · have hi : i < l.length := by omega
      have hro := obj_row (List.getElem?_eq_getElem hi)
      have fo := GObj.fit_un (hf _ (List.getElem_mem hi))
      have xo := hX _ (List.getElem_mem hi)
      have hm := cat_mid glO l i hi
      have hnx := cat_take glO l i hi
      have hB : (cat glO l).length ≤ 1048576 := hB
      obtain ⟨o, hO⟩ : ∃ o, o = l[i] := ⟨_, rfl⟩
      simp only [← hO] at hro fo xo hm hnx
      have lS : (GSect.ros o.sects).length = o.sects.length := by simp
      have lG : (GGlob.ros o.globs).length = o.globs.length := by simp
      have hoO : (glO o).length = (cat glS o.sects).length + (cat glG o.globs).length := by rw [glO, List.length_append]
      generalize hA : cat glO (l.take i) = A at *
      refine ⟨{ k : Nat // k ≤ o.sects.length }, fun k => ⟨[(0, .ro 2 (GObj.ros l)), (3, .ro 1 (GString.ros (lk l (A ++ cat glS (o.sects.take k.1))))), (4, .int .i64 i), (5, .int .i64 k.1)], []⟩, fun k => o.sects.length - k.1, ⟨0, Nat.zero_le _⟩, ?_, ?_⟩
      · exact ⟨rfl, congrArg (fun q => AV.ro 1 (GString.ros (lk l q))) (List.append_nil A).symm, rfl, rfl, trivial⟩
      · rintro ⟨k, hk⟩
        dsimp only
        refine ⟨Int.natCast_nonneg _, _, hro, fun h => ?_, fun h => ?_⟩ <;> simp only [lS, decide_eq_true_eq, decide_eq_false_iff_not] at h
        · have hk : k < o.sects.length := by omega
          have hrs := sect_at hk
          have fs := GSect.fit_un (fo.1.2 _ (List.getElem_mem hk))
          have xs := xo.1 _ (List.getElem_mem hk)
          have hm2 := cat_mid glS o.sects k hk
          have hnx2 := cat_take glS o.sects k hk
          obtain ⟨s, hS⟩ : ∃ s, s = o.sects[k] := ⟨_, rfl⟩
          simp only [← hS] at hrs fs xs hm2 hnx2
          have lW : (GExpr.ros s.words).length = s.words.length := ros_len s.words
          have hsS : (glS s).length = (cat glE s.words).length := rfl
          generalize hA2 : A ++ cat glS (o.sects.take k) = A2 at *
          have lA2 : A2.length = A.length + (cat glS (o.sects.take k)).length := by rw [← hA2, List.length_append]
          refine ⟨{ j : Nat // j ≤ s.words.length }, fun j => ⟨[(0, .ro 2 (GObj.ros l)), (3, .ro 1 (GString.ros (lk l (A2 ++ cat glE (s.words.take j.1))))), (4, .int .i64 i), (5, .int .i64 k), (6, .int .i64 j.1)], []⟩, fun j => s.words.length - j.1, ⟨0, Nat.zero_le _⟩, ?_, ?_⟩
          · exact ⟨rfl, congrArg (fun q => AV.ro 1 (GString.ros (lk l q))) (List.append_nil A2).symm, rfl, rfl, rfl, trivial⟩
          · rintro ⟨j, hj⟩
            dsimp only
            refine ⟨Int.natCast_nonneg _, _, hro, Int.natCast_nonneg _, _, hrs, fun h => ?_, fun h => ?_⟩ <;> simp only [lW, decide_eq_true_eq, decide_eq_false_iff_not] at h
            · have hj : j < s.words.length := by omega
              have hrw : (GExpr.ros s.words)[j]? = some (GExpr.ro s.words[j]) := ros_get s.words j hj
              have hm3 := cat_mid glE s.words j hj
              refine ⟨Int.natCast_nonneg _, _, hro, Int.natCast_nonneg _, _, hrs, Int.natCast_nonneg _, _, hrw, ?_⟩
              refine ⟨[.ro, .ro, .ro], .ro 1 (GString.ros (lk l ((A2 ++ cat glE (s.words.take j)) ++ glE s.words[j]))), [none, none, none], spec_l19Term l hl hf (xs _ (List.getElem_mem hj)) (fs.2 _ (List.getElem_mem hj)) _ (by rw [List.length_append]; omega), trivial, ?_⟩
              refine ⟨⟨j + 1, hj⟩, Nat.sub_succ_lt_self _ _ hj, rfl, congrArg (fun q => AV.ro 1 (GString.ros (lk l q))) (by rw [cat_take _ _ _ hj, List.append_assoc]), rfl, rfl, congrArg (AV.int .i64) (w64 (by omega) (by omega)), trivial⟩
            · have hj : j = s.words.length := by omega
              subst hj
              rw [List.take_length]
              refine ⟨⟨k + 1, hk⟩, Nat.sub_succ_lt_self _ _ hk, ?_⟩
              dsimp only
              rw [hnx2, ← List.append_assoc, hA2]
              exact ⟨rfl, rfl, rfl, congrArg (AV.int .i64) (w64 (by omega) (by omega)), trivial⟩
        · have hk : k = o.sects.length := by omega
          subst hk
          rw [List.take_length]
          generalize hA2 : A ++ cat glS o.sects = A2 at *
          have lA2 : A2.length = A.length + (cat glS o.sects).length := by rw [← hA2, List.length_append]
          refine ⟨{ j : Nat // j ≤ o.globs.length }, fun j => ⟨[(0, .ro 2 (GObj.ros l)), (3, .ro 1 (GString.ros (lk l (A2 ++ cat glG (o.globs.take j.1))))), (4, .int .i64 i), (7, .int .i64 j.1)], []⟩, fun j => o.globs.length - j.1, ⟨0, Nat.zero_le _⟩, ?_, ?_⟩
          · exact ⟨rfl, congrArg (fun q => AV.ro 1 (GString.ros (lk l q))) (List.append_nil A2).symm, rfl, rfl, trivial⟩
          · rintro ⟨j, hj⟩
            dsimp only
            refine ⟨Int.natCast_nonneg _, _, hro, fun h => ?_, fun h => ?_⟩ <;> simp only [lG, decide_eq_true_eq, decide_eq_false_iff_not] at h
            · have hj : j < o.globs.length := by omega
              have hrg := glob_row hj
              have fg := GGlob.fit_un (fo.2.2 _ (List.getElem_mem hj))
              have hm3 := cat_mid glG o.globs j hj
              have hgl : (glG o.globs[j]).length = (glE o.globs[j].e).length := rfl
              refine ⟨Int.natCast_nonneg _, _, hro, Int.natCast_nonneg _, _, hrg, ?_⟩
              refine ⟨[.ro, .ro, .ro], .ro 1 (GString.ros (lk l ((A2 ++ cat glG (o.globs.take j)) ++ glE o.globs[j].e))), [none, none, none], spec_l19Term l hl hf (xo.2 _ (List.getElem_mem hj)) fg _ (by rw [List.length_append]; omega), trivial, ?_⟩
              refine ⟨⟨j + 1, hj⟩, Nat.sub_succ_lt_self _ _ hj, rfl, congrArg (fun q => AV.ro 1 (GString.ros (lk l q))) (by rw [cat_take _ _ _ hj, List.append_assoc]; rfl), rfl, congrArg (AV.int .i64) (w64 (by omega) (by omega)), trivial⟩
            · have hj : j = o.globs.length := by omega
              subst hj
              rw [List.take_length]
              refine ⟨⟨i + 1, hi⟩, Nat.sub_succ_lt_self _ _ hi, ?_⟩
              dsimp only
              rw [hnx, glO, ← List.append_assoc, hA2]
              exact ⟨rfl, rfl, congrArg (AV.int .i64) (w64 (by omega) (by omega)), trivial⟩
    · have hi : i = l.length := by omega
      subst hi
      rw [List.take_length]
      exact ⟨.refl _, trivial⟩
end Go.Proofs.VI
