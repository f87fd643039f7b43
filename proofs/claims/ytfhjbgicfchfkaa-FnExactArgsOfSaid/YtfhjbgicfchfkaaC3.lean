/- Tokens: marks. -/
import Derived.Test.YtfhjbgicfchfkaaC2
set_option linter.unusedVariables false
set_option linter.unusedSimpArgs false
set_option maxRecDepth 10000
namespace Go.Proofs.VI
open Go

def markS {α : Type} (m : α → Int → α) (w : α → Nat) : List α → Int → List α
  | [], _ => []
  | x :: l, k => m x k :: markS m w l (k + w x)
def cntS {α : Type} (w : α → Nat) : List α → Nat
  | [] => 0
  | x :: l => w x + cntS w l
theorem markS_len {α : Type} (m : α → Int → α) (w : α → Nat) (l : List α) (k : Int) : (markS m w l k).length = l.length := by
  induction l generalizing k with
  | nil => rfl
  | cons x l ih => simp [markS, ih]
theorem markS_append {α : Type} (m : α → Int → α) (w : α → Nat) (a b : List α) (k : Int) : markS m w (a ++ b) k = markS m w a k ++ markS m w b (k + cntS w a) := by
  induction a generalizing k with
  | nil => simp [markS, cntS]
  | cons x l ih => simp only [List.cons_append, markS, ih, cntS]; congr 3; push_cast; omega
theorem cntS_append {α : Type} (w : α → Nat) (a b : List α) : cntS w (a ++ b) = cntS w a + cntS w b := by
  induction a with
  | nil => simp [cntS]
  | cons x l ih => simp only [List.cons_append, cntS, ih]; omega
theorem cntS_take_succ {α : Type} (w : α → Nat) (l : List α) (i : Nat) (h : i < l.length) : cntS w (l.take (i + 1)) = cntS w (l.take i) + w l[i] := by
  rw [List.take_add_one, List.getElem?_eq_getElem h, cntS_append]; simp [cntS]
theorem cntS_take_le {α : Type} (w : α → Nat) (l : List α) (i : Nat) : cntS w (l.take i) ≤ cntS w l := by
  have := cntS_append w (l.take i) (l.drop i)
  rw [List.take_append_drop] at this; omega
theorem markS_get {α : Type} (m : α → Int → α) (w : α → Nat) (l : List α) (k : Int) (i : Nat) (h : i < l.length) :
    (markS m w l k)[i]'(by rw [markS_len]; exact h) = m l[i] (k + cntS w (l.take i)) := by
  induction l generalizing k i with
  | nil => simp at h
  | cons x l ih =>
    cases i with
    | zero => simp [markS, cntS]
    | succ i =>
      simp only [markS, List.getElem_cons_succ, List.take_succ_cons, cntS]
      rw [ih _ _ (by simpa using h)]; congr 1; push_cast; omega
/-- The first i are marked. -/
def marking {α : Type} (m : α → Int → α) (w : α → Nat) (l : List α) (k : Int) (i : Nat) : List α := markS m w (l.take i) k ++ l.drop i
theorem marking_zero {α : Type} (m : α → Int → α) (w : α → Nat) (l : List α) (k : Int) : marking m w l k 0 = l := by simp [marking, markS]
theorem marking_all {α : Type} (m : α → Int → α) (w : α → Nat) (l : List α) (k : Int) (i : Nat) (h : l.length ≤ i) : marking m w l k i = markS m w l k := by
  simp [marking, List.take_of_length_le h, List.drop_eq_nil_of_le h]
theorem marking_len {α : Type} (m : α → Int → α) (w : α → Nat) (l : List α) (k : Int) (i : Nat) (h : i ≤ l.length) : (marking m w l k i).length = l.length := by
  simp [marking, markS_len]; omega
theorem marking_get {α : Type} (m : α → Int → α) (w : α → Nat) (l : List α) (k : Int) (i : Nat) (h : i < l.length) : (marking m w l k i)[i]? = some l[i] := by
  rw [marking, List.getElem?_append_right (by simp [markS_len]; omega)]
  simp [markS_len, Nat.min_eq_left (Nat.le_of_lt h)]
theorem marking_set {α : Type} (m : α → Int → α) (w : α → Nat) (l : List α) (k : Int) (i : Nat) (h : i < l.length) :
    (marking m w l k i).set i (m l[i] (k + cntS w (l.take i))) = marking m w l k (i + 1) := by
  rw [marking, List.set_append_right _ _ (by simp [markS_len]; omega)]
  simp only [markS_len, List.length_take, Nat.min_eq_left (Nat.le_of_lt h), Nat.sub_self]
  rw [List.drop_eq_getElem_cons h, List.set_cons_zero, marking, List.take_add_one, List.getElem?_eq_getElem h, Option.toList_some, markS_append, List.append_assoc]
  rfl
theorem marking_map {α β : Type} (f : α → β) (m : α → Int → α) (w : α → Nat) (l : List α) (k : Int) (i : Nat) (h : i < l.length) : ((marking m w l k i).map f)[i]? = some (f l[i]) := by
  rw [List.getElem?_map, marking_get _ _ _ _ _ h]; rfl

theorem set_get {α : Type} (l : List α) (i : Nat) (x : α) (h : i < l.length) : (l.set i x)[i]? = some x := by simp [h]
def Tok.mark (t : Tok) (k : Int) : Tok := ⟨k, k + 1, mtext (k + 2)⟩
def Tok.w (_ : Tok) : Nat := 3
theorem markTokenS_ok (l : List Tok) (k : Int) (h0 : 0 ≤ k) (hk : k + cntS Tok.w l ≤ 1152921504606846976) (hl : l.length ≤ 1073741824) :
    Con 15 [.ow 3 (l.map Tok.ro), .int .i64 k] (.int .i64 (k + cntS Tok.w l)) [some (.ow 3 ((markS Tok.mark Tok.w l k).map Tok.ro)), none] := by
  refine con Try.func15 ?_
  refine ⟨{ i : Nat // i ≤ l.length }, fun i => ⟨[(0, .own 0), (1, .int .i64 (k + cntS Tok.w (l.take i.1))), (5, .int .i64 i.1)], [(0, .rows 3 ((marking Tok.mark Tok.w l k i.1).map Tok.ro) [])]⟩, fun i => l.length - i.1, ⟨0, by omega⟩, ?_, ?_⟩
  · refine ⟨congrArg (AV.int .i64) ?_, rfl, rfl, .of_eq ?_, trivial⟩
    · simp [cntS]
    · rw [marking_zero]
  · rintro ⟨i, hi⟩
    have hlen := marking_len Tok.mark Tok.w l k i hi
    have hlen2 : ((marking Tok.mark Tok.w l k i).map Tok.ro).length = l.length := by rw [List.length_map, hlen]
    dsimp only
    refine ⟨fun h => ?_, fun h => ?_⟩ <;> simp only [hlen2, decide_eq_true_eq, decide_eq_false_iff_not] at h
    · have hi : i < l.length := by omega
      have hc := cntS_take_succ Tok.w l i hi
      have hc2 := cntS_take_le Tok.w l (i + 1)
      have hw : l[i].w = 3 := rfl
      have e1 : IntKind.wrap .i64 (k + (cntS Tok.w (l.take i) : Int) + 1) = k + cntS Tok.w (l.take i) + 1 := w64 (by omega) (by omega)
      have e2 : IntKind.wrap .i64 (k + (cntS Tok.w (l.take i) : Int) + 1 + 1) = k + cntS Tok.w (l.take i) + 2 := by rw [w64 (by omega) (by omega)]; omega
      have e3 : IntKind.wrap .i64 (k + (cntS Tok.w (l.take i) : Int) + 2 + 1) = k + cntS Tok.w (l.take (i + 1)) := by rw [w64 (by omega) (by omega)]; omega
      have e4 : IntKind.wrap .i64 ((i : Int) + 1) = ((i + 1 : Nat) : Int) := w64 (by omega) (by omega)
      have et := markText_ok (k + cntS Tok.w (l.take i) + 2) (by omega) (by omega)
      refine ⟨Int.natCast_nonneg _, by rw [hlen2]; exact h, _, marking_map _ _ _ _ _ _ hi, ?_⟩
      refine ⟨Int.natCast_nonneg _, by rw [List.length_set, hlen2]; exact h, _, set_get _ _ _ (by omega), ?_⟩
      refine ⟨[.ro], .str (mtext (k + cntS Tok.w (l.take i) + 2)), [none], by rw [e1, e2]; exact et, trivial, ?_⟩
      refine ⟨Int.natCast_nonneg _, by rw [List.length_set, List.length_set, hlen2]; exact h, _, set_get _ _ _ (by rw [List.length_set]; omega), ?_⟩
      refine ⟨⟨i + 1, by omega⟩, by dsimp only; omega, congrArg (AV.int .i64) ?_, congrArg (AV.int .i64) e4, rfl, .of_eq ?_, trivial⟩
      · rw [e1, e2, e3]
      · rw [← marking_set _ _ _ _ _ hi, List.map_set]
        show List.set (List.set (List.set _ i _) i _) i _ = _
        rw [List.set_set, List.set_set, e1]
        rfl
    · refine ⟨.i64 ?_, .of_eq (congrArg (AV.ow 3) ?_), trivial⟩
      · rw [List.take_of_length_le (by omega)]
      · rw [marking_all _ _ _ _ _ (by omega)]
end Go.Proofs.VI
