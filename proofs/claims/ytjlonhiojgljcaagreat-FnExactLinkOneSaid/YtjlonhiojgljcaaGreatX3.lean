/- Contracts of functions, and what they rest on: ordlaw. -/
import Derived.Test.YtjlonhiojgljcaaGreatD1
set_option linter.unusedVariables false
set_option linter.unusedSimpArgs false
set_option maxRecDepth 10000
set_option maxHeartbeats 4000000
namespace Go.Proofs.VI
open Go
/-- Elements put in the order of their keys. -/
def insK {α : Type} (K : α → Int) (S : List α) (x : α) : List α := (S.filter fun y => decide (K y ≤ K x)) ++ x :: (S.filter fun y => decide (K x < K y))
def ordK {α : Type} (K : α → Int) (l : List α) : List α := l.foldl (insK K) []
theorem filter_split {α : Type} (p q : α → Bool) (l : List α) (h : ∀ x ∈ l, q x = !p x) : (l.filter p ++ l.filter q).Perm l := by
  induction l with
  | nil => exact List.Perm.refl _
  | cons x l ih =>
    have ih := ih fun y hy => h y (List.mem_cons_of_mem _ hy)
    have hx := h x List.mem_cons_self
    cases e : p x with
    | true => rw [List.filter_cons_of_pos e, List.filter_cons_of_neg (by rw [hx, e]; decide)]; exact ih.cons x
    | false =>
      rw [List.filter_cons_of_neg (by rw [e]; decide), List.filter_cons_of_pos (by rw [hx, e]; rfl)]
      exact List.perm_middle.trans (ih.cons x)
theorem insK_perm {α : Type} (K : α → Int) (S : List α) (x : α) : (insK K S x).Perm (S ++ [x]) := by
  refine List.perm_middle.trans ?_
  refine ((filter_split _ _ S fun y _ => ?_).cons x).trans ?_
  · by_cases h : K y ≤ K x
    · rw [decide_eq_false (show ¬ K x < K y by omega), decide_eq_true h]; rfl
    · rw [decide_eq_true (show K x < K y by omega), decide_eq_false h]; rfl
  · exact (List.perm_append_comm (l₁ := S) (l₂ := [x])).symm
theorem insK_sorted {α : Type} (K : α → Int) (S : List α) (x : α) (h : S.Pairwise fun a b => K a ≤ K b) : (insK K S x).Pairwise fun a b => K a ≤ K b := by
  rw [insK, List.pairwise_append]
  refine ⟨h.sublist List.filter_sublist, List.pairwise_cons.2 ⟨fun y hy => ?_, h.sublist List.filter_sublist⟩, fun a ha b hb => ?_⟩
  · have := of_decide_eq_true (List.mem_filter.1 hy).2; omega
  · have h1 := of_decide_eq_true (List.mem_filter.1 ha).2
    rcases List.mem_cons.1 hb with e | hb
    · rw [e]; exact h1
    · have := of_decide_eq_true (List.mem_filter.1 hb).2; omega
theorem insK_at {α : Type} (K : α → Int) {S : List α} {x : α} {k : Nat} (h1 : ∀ y ∈ S.take k, K y ≤ K x) (h2 : ∀ y ∈ S.drop k, K x < K y) : insK K S x = S.take k ++ x :: S.drop k := by
  rw [insK]
  have e : ∀ p : α → Bool, S.filter p = (S.take k).filter p ++ (S.drop k).filter p := fun p => by rw [← List.filter_append, List.take_append_drop]
  rw [e, e]
  have a1 : (S.take k).filter (fun y => decide (K y ≤ K x)) = S.take k := List.filter_eq_self.2 fun y hy => decide_eq_true (h1 y hy)
  have a2 : (S.drop k).filter (fun y => decide (K y ≤ K x)) = [] := List.filter_eq_nil_iff.2 fun y hy => by
    have := h2 y hy
    simp only [decide_eq_true_eq]; omega
  have a3 : (S.take k).filter (fun y => decide (K x < K y)) = [] := List.filter_eq_nil_iff.2 fun y hy => by
    have := h1 y hy
    simp only [decide_eq_true_eq]; omega
  have a4 : (S.drop k).filter (fun y => decide (K x < K y)) = S.drop k := List.filter_eq_self.2 fun y hy => decide_eq_true (h2 y hy)
  rw [a1, a2, a3, a4, List.append_nil, List.nil_append]
theorem ordK_snoc {α : Type} (K : α → Int) (l : List α) (x : α) : ordK K (l ++ [x]) = insK K (ordK K l) x := by rw [ordK, ordK, List.foldl_append]; rfl
theorem ordK_facts {α : Type} (K : α → Int) (l : List α) : ∀ a : List α, (a.Pairwise fun a b => K a ≤ K b) → ((l.foldl (insK K) a).Perm (a ++ l)) ∧ (l.foldl (insK K) a).Pairwise fun a b => K a ≤ K b := by
  induction l with
  | nil => intro a h; exact ⟨by rw [List.append_nil]; exact List.Perm.refl _, h⟩
  | cons x l ih =>
    intro a h
    obtain ⟨h1, h2⟩ := ih (insK K a x) (insK_sorted K a x h)
    refine ⟨h1.trans ?_, h2⟩
    have := (insK_perm K a x).append_right l
    rw [List.append_assoc] at this
    exact this
theorem ordK_perm {α : Type} (K : α → Int) (l : List α) : (ordK K l).Perm l := (ordK_facts K l [] List.Pairwise.nil).1
theorem ordK_sorted {α : Type} (K : α → Int) (l : List α) : (ordK K l).Pairwise fun a b => K a ≤ K b := (ordK_facts K l [] List.Pairwise.nil).2
theorem ordK_len {α : Type} (K : α → Int) (l : List α) : (ordK K l).length = l.length := (ordK_perm K l).length_eq
theorem uniqueK {α : Type} (K : α → Int) : ∀ {a b : List α}, (a.Pairwise fun x y => K x < K y) → (b.Pairwise fun x y => K x < K y) → (∀ x, x ∈ a ↔ x ∈ b) → a = b
  | [], [], _, _, _ => rfl
  | [], y :: b, _, _, h => absurd ((h y).2 List.mem_cons_self) (by simp)
  | x :: a, [], _, _, h => absurd ((h x).1 List.mem_cons_self) (by simp)
  | x :: a, y :: b, ha, hb, h => by
    have ha' := List.pairwise_cons.1 ha
    have hb' := List.pairwise_cons.1 hb
    have e : x = y := by
      rcases List.mem_cons.1 ((h x).1 List.mem_cons_self) with e | e
      · exact e
      · rcases List.mem_cons.1 ((h y).2 List.mem_cons_self) with k | k
        · exact k.symm
        · have := hb'.1 x e; have := ha'.1 y k; omega
    subst e
    rw [uniqueK K ha'.2 hb'.2 fun z => ?_]
    have hz := h z
    constructor
    · intro hm
      rcases List.mem_cons.1 (hz.1 (List.mem_cons_of_mem _ hm)) with e | e
      · subst e; have := ha'.1 z hm; omega
      · exact e
    · intro hm
      rcases List.mem_cons.1 (hz.2 (List.mem_cons_of_mem _ hm)) with e | e
      · subst e; have := hb'.1 z hm; omega
      · exact e
theorem strictK {α : Type} (K : α → Int) {l : List α} (h : l.Pairwise fun a b => K a ≤ K b) (hn : (l.map K).Nodup) : l.Pairwise fun a b => K a < K b := by
  rw [List.Nodup, List.pairwise_map] at hn
  exact (h.and hn).imp fun ⟨h1, h2⟩ => by omega
/-- What is sorted and has the same elements is the one order. -/
theorem ordK_eq {α : Type} (K : α → Int) {l s : List α} (hn : (l.map K).Nodup) (hp : s.Perm l) (hs : s.Pairwise fun a b => K a ≤ K b) : s = ordK K l := by
  have hp2 := ordK_perm K l
  refine uniqueK K (strictK K hs ((hp.map K).nodup_iff.2 hn)) (strictK K (ordK_sorted K l) ((hp2.map K).nodup_iff.2 hn)) fun x => ?_
  rw [hp.mem_iff, hp2.mem_iff]
end Go.Proofs.VI
