/- ArgsOf. -/
import Derived.Test.YtfhjbgicfchfkaaC4
set_option linter.unusedVariables false
set_option linter.unusedSimpArgs false
set_option maxRecDepth 10000
namespace Go.Proofs.VI
open Go
def isComma (t : Tok) : Bool := decide (t.k = 4) && decide (t.s = ⟨#[44]⟩)
def argsStep (p : List (List Tok) × List Tok) (t : Tok) : List (List Tok) × List Tok := if isComma t then (p.1 ++ [p.2], []) else (p.1, p.2 ++ [t])
def argsRun (l : List Tok) : List (List Tok) × List Tok := l.foldl argsStep ([], [])
def argsOf (l : List Tok) : List (List Tok) := if l.length = 0 then [] else (argsRun l).1 ++ [(argsRun l).2]
theorem argsRun_snoc (l : List Tok) (i : Nat) (h : i < l.length) : argsRun (l.take (i + 1)) = argsStep (argsRun (l.take i)) l[i] := by
  rw [argsRun, List.take_add_one, List.getElem?_eq_getElem h, List.foldl_append]; rfl
theorem argsRun_len (l : List Tok) : (argsRun l).1.length + (argsRun l).2.length ≤ l.length := by
  suffices h : ∀ (l : List Tok) p, (l.foldl argsStep p).1.length + (l.foldl argsStep p).2.length ≤ l.length + p.1.length + p.2.length from by simpa [argsRun] using h l ([], [])
  intro l
  induction l with
  | nil => intro p; simp
  | cons t l ih =>
    intro p
    have := ih (argsStep p t)
    simp only [List.foldl_cons, List.length_cons] at this ⊢
    have h2 : (argsStep p t).1.length + (argsStep p t).2.length ≤ p.1.length + p.2.length + 1 := by
      unfold argsStep; split <;> simp <;> omega
    omega
theorem modify_end {α : Type} (a : List α) (x : α) (f : α → α) : (a ++ [x]).modify (a.length + 0) f = a ++ [f x] := by
  induction a with
  | nil => rfl
  | cons y l ih => simp only [List.length_cons, List.cons_append, Nat.add_zero, List.modify_succ_cons] at ih ⊢; rw [ih]
theorem specArgsOf_ok (l : List Tok) (hl : l.length ≤ 1073741824) : Con 10 [.ro 3 (l.map Tok.ro)] (.ow 1 (owSS (argsOf l))) [none] := by
  refine con Try.func10 ?_
  have hlen : (l.map Tok.ro).length = l.length := by simp
  refine ⟨fun h => ?_, fun h => ?_⟩ <;> simp only [hlen, decide_eq_true_eq, decide_eq_false_iff_not] at h
  · refine ⟨.of_eq (congrArg (AV.ow 1) ?_), trivial⟩
    rw [argsOf, if_pos (by omega)]; rfl
  refine ⟨{ i : Nat // i ≤ l.length }, fun i => ⟨[(0, .ro 3 (l.map Tok.ro)), (3, .own 0), (4, .own 1), (5, .int .i64 i.1)], [(0, .rows 1 (owSS (argsRun (l.take i.1)).1) []), (1, .rows 3 ((argsRun (l.take i.1)).2.map Tok.ro) [])]⟩, fun i => l.length - i.1, ⟨0, by omega⟩, ?_, ?_⟩
  · exact ⟨rfl, rfl, rfl, .of_eq rfl, rfl, .of_eq rfl, trivial⟩
  · rintro ⟨i, hi⟩
    dsimp only
    refine ⟨fun h => ?_, fun h => ?_⟩ <;> simp only [hlen, decide_eq_true_eq, decide_eq_false_iff_not] at h
    · have hi : i < l.length := by omega
      have hr := argsRun_snoc l i hi
      have hb := argsRun_len (l.take i)
      have hb2 := argsRun_len (l.take (i + 1))
      simp only [List.length_take] at hb hb2
      have e4 : IntKind.wrap .i64 ((i : Int) + 1) = ((i + 1 : Nat) : Int) := w64 (by omega) (by omega)
      have hg := map_get (f := Tok.ro) l i hi
      refine ⟨Int.natCast_nonneg _, _, hg, ?_⟩
      refine ⟨fun h => ⟨Int.natCast_nonneg _, _, hg, fun h2 => ?_, fun h2 => ⟨Int.natCast_nonneg _, _, hg, ?_⟩⟩, fun h => ⟨Int.natCast_nonneg _, _, hg, ?_⟩⟩
      · have he : argsRun (l.take (i + 1)) = ((argsRun (l.take i)).1 ++ [(argsRun (l.take i)).2], []) := by
          rw [hr, argsStep, if_pos (by rw [isComma, h, h2]; rfl)]
        refine ⟨trivial, by dsimp only [List.length_cons, List.length_nil]; rw [List.length_map]; omega, ⟨⟨trivial, trivial⟩, trivial⟩, ?_⟩
        refine ⟨⟨i + 1, by omega⟩, by dsimp only; omega, rfl, congrArg (AV.int .i64) e4, rfl, .of_eq ?_, rfl, .of_eq ?_, trivial⟩
        · rw [he]
          exact (modify_end _ _ _).trans (by rw [owSS, owSS, List.map_append]; rfl)
        · rw [he]; rfl
      · have he : argsRun (l.take (i + 1)) = ((argsRun (l.take i)).1, (argsRun (l.take i)).2 ++ [l[i]]) := by
          rw [hr, argsStep, if_neg (by rw [isComma, h2]; simp)]
        refine ⟨trivial, by dsimp only [List.length_cons, List.length_nil]; rw [List.length_map]; omega, ⟨⟨trivial, trivial, trivial, trivial⟩, trivial⟩, ?_⟩
        refine ⟨⟨i + 1, by omega⟩, by dsimp only; omega, rfl, congrArg (AV.int .i64) e4, rfl, .of_eq ?_, rfl, .of_eq ?_, trivial⟩
        · rw [he]
        · rw [he, List.map_append]; rfl
      · have he : argsRun (l.take (i + 1)) = ((argsRun (l.take i)).1, (argsRun (l.take i)).2 ++ [l[i]]) := by
          rw [hr, argsStep, if_neg (by rw [isComma, h]; simp)]
        refine ⟨trivial, by dsimp only [List.length_cons, List.length_nil]; rw [List.length_map]; omega, ⟨⟨trivial, trivial, trivial, trivial⟩, trivial⟩, ?_⟩
        refine ⟨⟨i + 1, by omega⟩, by dsimp only; omega, rfl, congrArg (AV.int .i64) e4, rfl, .of_eq ?_, rfl, .of_eq ?_, trivial⟩
        · rw [he]
        · rw [he, List.map_append]; rfl
    · have hb := argsRun_len (l.take i)
      simp only [List.length_take] at hb
      refine ⟨trivial, by dsimp only [List.length_cons, List.length_nil]; rw [List.length_map]; omega, ⟨⟨trivial, trivial⟩, trivial⟩, .of_eq (congrArg (AV.ow 1) ?_), trivial⟩
      rw [argsOf, if_neg (by omega), List.take_of_length_le (by omega)]
      exact (modify_end _ _ _).trans (by rw [owSS, owSS, List.map_append]; rfl)
theorem implArgsOf_ok (l : List Tok) (hl : l.length ≤ 1073741824) : Con 12 [.ro 3 (l.map Tok.ro)] (.ow 1 (owSS (argsOf l))) [none] := by
  refine con Try.func12 ?_
  have hlen : (l.map Tok.ro).length = l.length := by simp
  refine ⟨fun h => ?_, fun h => ?_⟩ <;> simp only [hlen, decide_eq_true_eq, decide_eq_false_iff_not] at h
  · refine ⟨.of_eq (congrArg (AV.ow 1) ?_), trivial⟩
    rw [argsOf, if_pos (by omega)]; rfl
  refine ⟨{ i : Nat // i ≤ l.length }, fun i => ⟨[(3, .own 0), (4, .own 1), (13, .ro 3 (l.map Tok.ro)), (14, .int .i64 l.length), (15, .int .i64 i.1)], [(0, .rows 1 (owSS (argsRun (l.take i.1)).1) []), (1, .rows 3 ((argsRun (l.take i.1)).2.map Tok.ro) [])]⟩, fun i => l.length - i.1, ⟨0, by omega⟩, ?_, ?_⟩
  · exact ⟨rfl, congrArg (AV.int .i64) (by rw [hlen]), rfl, rfl, .of_eq rfl, rfl, .of_eq rfl, trivial⟩
  · rintro ⟨i, hi⟩
    dsimp only
    refine ⟨fun h => ?_, fun h => ?_⟩ <;> simp only [hlen, decide_eq_true_eq, decide_eq_false_iff_not] at h
    · have hi : i < l.length := by omega
      have hr := argsRun_snoc l i hi
      have hb := argsRun_len (l.take i)
      have hb2 := argsRun_len (l.take (i + 1))
      simp only [List.length_take] at hb hb2
      have e4 : IntKind.wrap .i64 ((i : Int) + 1) = ((i + 1 : Nat) : Int) := w64 (by omega) (by omega)
      have hg := map_get (f := Tok.ro) l i hi
      refine ⟨Int.natCast_nonneg _, _, hg, ?_⟩
      refine ⟨fun h => ⟨fun h2 => ?_, fun h2 => ?_⟩, fun h => ?_⟩
      · have he : argsRun (l.take (i + 1)) = ((argsRun (l.take i)).1 ++ [(argsRun (l.take i)).2], []) := by
          rw [hr, argsStep, if_pos (by rw [isComma, h, h2]; rfl)]
        refine ⟨trivial, by dsimp only [List.length_cons, List.length_nil]; rw [List.length_map]; omega, ⟨⟨trivial, trivial⟩, trivial⟩, ?_⟩
        refine ⟨⟨i + 1, by omega⟩, by dsimp only; omega, rfl, rfl, congrArg (AV.int .i64) e4, rfl, .of_eq ?_, rfl, .of_eq ?_, trivial⟩
        · rw [he]
          exact (modify_end _ _ _).trans (by rw [owSS, owSS, List.map_append]; rfl)
        · rw [he]; rfl
      · have he : argsRun (l.take (i + 1)) = ((argsRun (l.take i)).1, (argsRun (l.take i)).2 ++ [l[i]]) := by
          rw [hr, argsStep, if_neg (by rw [isComma, h2]; simp)]
        refine ⟨trivial, by dsimp only [List.length_cons, List.length_nil]; rw [List.length_map]; omega, ⟨⟨trivial, trivial, trivial, trivial⟩, trivial⟩, ?_⟩
        refine ⟨⟨i + 1, by omega⟩, by dsimp only; omega, rfl, rfl, congrArg (AV.int .i64) e4, rfl, .of_eq ?_, rfl, .of_eq ?_, trivial⟩
        · rw [he]
        · rw [he, List.map_append]; rfl
      · have he : argsRun (l.take (i + 1)) = ((argsRun (l.take i)).1, (argsRun (l.take i)).2 ++ [l[i]]) := by
          rw [hr, argsStep, if_neg (by rw [isComma, h]; simp)]
        refine ⟨trivial, by dsimp only [List.length_cons, List.length_nil]; rw [List.length_map]; omega, ⟨⟨trivial, trivial, trivial, trivial⟩, trivial⟩, ?_⟩
        refine ⟨⟨i + 1, by omega⟩, by dsimp only; omega, rfl, rfl, congrArg (AV.int .i64) e4, rfl, .of_eq ?_, rfl, .of_eq ?_, trivial⟩
        · rw [he]
        · rw [he, List.map_append]; rfl
    · have hb := argsRun_len (l.take i)
      simp only [List.length_take] at hb
      refine ⟨trivial, by dsimp only [List.length_cons, List.length_nil]; rw [List.length_map]; omega, ⟨⟨trivial, trivial⟩, trivial⟩, .of_eq (congrArg (AV.ow 1) ?_), trivial⟩
      rw [argsOf, if_neg (by omega), List.take_of_length_le (by omega)]
      exact (modify_end _ _ _).trans (by rw [owSS, owSS, List.map_append]; rfl)
end Go.Proofs.VI
