/- Contracts. -/
import Derived.Test.YtfhjbgicfchfkaaD2
set_option linter.unusedVariables false
set_option linter.unusedSimpArgs false
set_option maxRecDepth 10000
namespace Go.Proofs.VI
open Go
def hasG (o : GObj) (s : ByteArray) : Bool := o.globs.any fun g => decide (g.name = s)
def hasL (l : List GObj) (s : ByteArray) : Bool := l.any fun o => hasG o s
theorem any_hit {α : Type} (p : α → Bool) (l : List α) (i : Nat) (h : i < l.length) (hp : p l[i] = true) : l.any p = true := List.any_eq_true.2 ⟨_, List.getElem_mem h, hp⟩
theorem any_step {α : Type} (p : α → Bool) (l : List α) (i : Nat) (h : i < l.length) (ha : (l.take i).any p = false) (hp : p l[i] = false) : (l.take (i + 1)).any p = false := by
  rw [List.take_add_one, List.getElem?_eq_getElem h, List.any_append, ha]; simp [hp]
theorem any_miss {α : Type} (p : α → Bool) (l : List α) (i : Nat) (h : l.length ≤ i) (ha : (l.take i).any p = false) : l.any p = false := by
  rwa [List.take_of_length_le h] at ha
def idxOf {α : Type} (p : α → Bool) (l : List α) : Int := if l.findIdx p < l.length then (l.findIdx p : Int) else -1
theorem idxOf_hit {α : Type} (p : α → Bool) (l : List α) (i : Nat) (hi : i < l.length) (h : i ≤ l.findIdx p) (hs : p l[i] = true) : idxOf p l = i := by
  have e : l.findIdx p = i := (List.findIdx_eq hi).2 ⟨hs, fun j hj => by simpa using List.not_of_lt_findIdx (show j < l.findIdx p by omega)⟩
  rw [idxOf, e, if_pos hi]
theorem idxOf_step {α : Type} (p : α → Bool) (l : List α) (i : Nat) (hi : i < l.length) (h : i ≤ l.findIdx p) (hs : p l[i] = false) : i + 1 ≤ l.findIdx p := by
  rcases Nat.lt_or_ge i (l.findIdx p) with h2 | h2
  · exact h2
  · have e : l.findIdx p = i := by omega
    have := ((List.findIdx_eq hi).1 e).1
    rw [hs] at this; cases this
theorem idxOf_miss {α : Type} (p : α → Bool) (l : List α) (h : l.length ≤ l.findIdx p) : idxOf p l = -1 := by
  rw [idxOf, if_neg (by omega)]
theorem idxOf_any {α : Type} (p : α → Bool) (l : List α) : decide (0 ≤ idxOf p l) = l.any p := by
  rw [idxOf]
  rcases Nat.lt_or_ge (l.findIdx p) l.length with h | h
  · rw [if_pos h, any_hit p l _ h List.findIdx_getElem]
    simp
  · rw [if_neg (by omega)]
    have : l.any p = false := by
      rw [List.any_eq_false]
      intro x hx
      have := List.findIdx_eq_length.1 (show l.findIdx p = l.length from Nat.le_antisymm List.findIdx_le_length h)
      simpa using this x hx
    rw [this]; rfl
theorem spec_l18Has (a : GObj) (s : ByteArray) (hf : GObj.fit a) : Con 66 [.agg (GObj.ro a), .str s] (.bool (hasG a s)) [none, none] := by
  refine con Try.func66 ?_
  obtain ⟨f0, f1⟩ := GObj.fit_un hf
  have hlen : (GGlob.ros a.globs).length = a.globs.length := by simp
  refine ⟨{ i : Nat // i ≤ a.globs.length ∧ (a.globs.take i).any (fun g => decide (g.name = s)) = false }, fun i => ⟨[(1, .str s), (2, .ptr 0 0 0), (5, .int .i64 i.1)], [(0, .box (GObj.ro a) [])]⟩, fun i => a.globs.length - i.1, ⟨0, by omega, rfl⟩, ?_, ?_⟩
  · exact ⟨rfl, rfl, rfl, rfl, .refl _, trivial⟩
  · rintro ⟨i, hi, ha⟩
    dsimp only
    refine ⟨fun h => ?_, fun h => ⟨.of_eq (congrArg AV.bool ?_), trivial⟩⟩ <;> simp only [hlen, decide_eq_true_eq, decide_eq_false_iff_not] at h
    · have hi : i < a.globs.length := by omega
      refine ⟨Int.natCast_nonneg _, _, map_get (f := GGlob.ro) _ _ hi, fun h => ⟨.of_eq (congrArg AV.bool ?_), trivial⟩, fun h => ?_⟩
      · exact (any_hit _ a.globs i hi h).symm
      · exact ⟨⟨i + 1, by omega, any_step _ a.globs i hi ha h⟩, by dsimp only; omega, rfl, rfl, rfl, congrArg (AV.int .i64) (w64 (by omega) (by omega)), .refl _, trivial⟩
    · exact (any_miss _ a.globs i (by omega) ha).symm
theorem spec_Has (l : List GObj) (s : ByteArray) (hl : l.length ≤ 1099511627776) (hf : ∀ o ∈ l, GObj.fit o) : Con 38 [.ro 2 (GObj.ros l), .str s] (.bool (hasL l s)) [none, none] := by
  refine con Try.func38 ?_
  have hlen : (GObj.ros l).length = l.length := by simp
  refine ⟨{ i : Nat // i ≤ l.length ∧ (l.take i).any (fun o => hasG o s) = false }, fun i => ⟨[(0, .ro 2 (GObj.ros l)), (1, .str s), (5, .int .i64 i.1)], []⟩, fun i => l.length - i.1, ⟨0, by omega, rfl⟩, ?_, ?_⟩
  · exact ⟨rfl, rfl, rfl, trivial⟩
  · rintro ⟨i, hi, ha⟩
    dsimp only
    refine ⟨fun h => ?_, fun h => ⟨.of_eq (congrArg AV.bool ?_), trivial⟩⟩ <;> simp only [hlen, decide_eq_true_eq, decide_eq_false_iff_not] at h
    · have hi : i < l.length := by omega
      refine ⟨Int.natCast_nonneg _, _, map_get (f := GObj.ro) _ _ hi, ?_⟩
      refine ⟨[.ro, .ro], .bool (hasG l[i] s), [none, none], spec_l18Has l[i] s (hf _ (List.getElem_mem _)), trivial, fun h => ⟨.of_eq (congrArg AV.bool ?_), trivial⟩, fun h => ?_⟩
      · exact (any_hit _ l i hi h).symm
      · exact ⟨⟨i + 1, by omega, any_step _ l i hi ha h⟩, by dsimp only; omega, rfl, rfl, congrArg (AV.int .i64) (w64 (by omega) (by omega)), trivial⟩
    · exact (any_miss _ l i (by omega) ha).symm
theorem impl_hasGlob1 (g : GGlob) (s : ByteArray) : Con 85 [.agg (GGlob.ro g), .rp [.str s] 0] (.bool (decide (g.name = s))) [none, none] := by
  refine con Try.func85 ?_
  exact ⟨.refl _, trivial⟩
theorem indexGlob (l : List GGlob) (s : ByteArray) (hl : l.length ≤ 1099511627776) : Con 90 [.ro 5 (GGlob.ros l), .fn 85 [.rp [.str s] 0]] (.int .i64 (idxOf (fun g : GGlob => decide (g.name = s)) l)) [none, none] := by
  refine con Try.func90 ?_
  have hlen : (GGlob.ros l).length = l.length := by simp
  refine ⟨{ i : Nat // i ≤ l.length ∧ i ≤ l.findIdx (fun g : GGlob => decide (g.name = s)) }, fun i => ⟨[(0, .ro 5 (GGlob.ros l)), (1, .fn 85 [.rp [.str s] 0]), (7, .int .i64 l.length), (8, .int .i64 i.1)], []⟩, fun i => l.length - i.1, ⟨0, by omega, by omega⟩, ?_, ?_⟩
  · exact ⟨rfl, rfl, rfl, congrArg (AV.int .i64) (by rw [hlen]), rfl, trivial⟩
  · rintro ⟨i, hi, hf⟩
    dsimp only
    refine ⟨fun h => ?_, fun h => ⟨.i64 ?_, trivial⟩⟩ <;> simp only [decide_eq_true_eq, decide_eq_false_iff_not] at h
    · have hi : i < l.length := by omega
      refine ⟨Int.natCast_nonneg _, _, map_get (f := GGlob.ro) _ _ hi, [.ro, .ro], .bool (decide (l[i].name = s)), [none, none], impl_hasGlob1 l[i] s, trivial, fun h => ⟨.i64 ?_, trivial⟩, fun h => ?_⟩
      · exact (idxOf_hit _ l i hi hf h).symm
      · exact ⟨⟨i + 1, by omega, idxOf_step _ l i hi hf h⟩, by dsimp only; omega, rfl, rfl, rfl, rfl, congrArg (AV.int .i64) (w64 (by omega) (by omega)), trivial⟩
    · rw [idxOf_miss _ l (by omega)]
theorem containsGlob (l : List GGlob) (s : ByteArray) (hl : l.length ≤ 1099511627776) : Con 84 [.ro 5 (GGlob.ros l), .fn 85 [.rp [.str s] 0]] (.bool (l.any fun g => decide (g.name = s))) [none, none] := by
  refine con Try.func84 ?_
  refine ⟨[.ro, .ro], .int .i64 (idxOf (fun g : GGlob => decide (g.name = s)) l), [none, none], indexGlob l s hl, trivial, .of_eq (congrArg AV.bool ?_), trivial⟩
  exact idxOf_any _ l
theorem impl_hasGlob (a : GObj) (s : ByteArray) (hf : GObj.fit a) : Con 69 [.agg (GObj.ro a), .str s] (.bool (hasG a s)) [none, none] := by
  refine con Try.func69 ?_
  obtain ⟨f0, f1⟩ := GObj.fit_un hf
  exact ⟨[.ro, .ro], .bool (hasG a s), [none, none], containsGlob a.globs s f1.1, ⟨trivial, trivial⟩, .refl _, trivial⟩
theorem impl_Has1 (o : GObj) (s : ByteArray) (hf : GObj.fit o) : Con 68 [.agg (GObj.ro o), .rp [.str s] 0] (.bool (hasG o s)) [none, none] := by
  refine con Try.func68 ?_
  exact ⟨[.ro, .ro], .bool (hasG o s), [none, none], impl_hasGlob o s hf, trivial, .refl _, trivial⟩
theorem indexObj (l : List GObj) (s : ByteArray) (hl : l.length ≤ 1099511627776) (ho : ∀ o ∈ l, GObj.fit o) : Con 83 [.ro 2 (GObj.ros l), .fn 68 [.rp [.str s] 0]] (.int .i64 (idxOf (fun o : GObj => hasG o s) l)) [none, none] := by
  refine con Try.func83 ?_
  have hlen : (GObj.ros l).length = l.length := by simp
  refine ⟨{ i : Nat // i ≤ l.length ∧ i ≤ l.findIdx (fun o : GObj => hasG o s) }, fun i => ⟨[(0, .ro 2 (GObj.ros l)), (1, .fn 68 [.rp [.str s] 0]), (7, .int .i64 l.length), (8, .int .i64 i.1)], []⟩, fun i => l.length - i.1, ⟨0, by omega, by omega⟩, ?_, ?_⟩
  · exact ⟨rfl, rfl, rfl, congrArg (AV.int .i64) (by rw [hlen]), rfl, trivial⟩
  · rintro ⟨i, hi, hf⟩
    dsimp only
    refine ⟨fun h => ?_, fun h => ⟨.i64 ?_, trivial⟩⟩ <;> simp only [decide_eq_true_eq, decide_eq_false_iff_not] at h
    · have hi : i < l.length := by omega
      refine ⟨Int.natCast_nonneg _, _, map_get (f := GObj.ro) _ _ hi, [.ro, .ro], .bool (hasG l[i] s), [none, none], impl_Has1 l[i] s (ho _ (List.getElem_mem _)), trivial, fun h => ⟨.i64 ?_, trivial⟩, fun h => ?_⟩
      · exact (idxOf_hit _ l i hi hf h).symm
      · exact ⟨⟨i + 1, by omega, idxOf_step _ l i hi hf h⟩, by dsimp only; omega, rfl, rfl, rfl, rfl, congrArg (AV.int .i64) (w64 (by omega) (by omega)), trivial⟩
    · rw [idxOf_miss _ l (by omega)]
theorem containsObj (l : List GObj) (s : ByteArray) (hl : l.length ≤ 1099511627776) (ho : ∀ o ∈ l, GObj.fit o) : Con 67 [.ro 2 (GObj.ros l), .fn 68 [.rp [.str s] 0]] (.bool (hasL l s)) [none, none] := by
  refine con Try.func67 ?_
  refine ⟨[.ro, .ro], .int .i64 (idxOf (fun o : GObj => hasG o s) l), [none, none], indexObj l s hl ho, trivial, .of_eq (congrArg AV.bool ?_), trivial⟩
  exact idxOf_any _ l
theorem impl_Has (l : List GObj) (s : ByteArray) (hl : l.length ≤ 1099511627776) (ho : ∀ o ∈ l, GObj.fit o) : Con 40 [.ro 2 (GObj.ros l), .str s] (.bool (hasL l s)) [none, none] := by
  refine con Try.func40 ?_
  exact ⟨[.ro, .ro], .bool (hasL l s), [none, none], containsObj l s hl ho, ⟨trivial, trivial⟩, .refl _, trivial⟩
end Go.Proofs.VI
