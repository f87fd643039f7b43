/- Contracts of functions, and what they rest on: sortlaw. -/
import Derived.Test.YtjlonhiojgljcaaGreatD1
import Derived.Lib.SlicesCompact
set_option linter.unusedVariables false
set_option linter.unusedSimpArgs false
set_option maxRecDepth 10000
set_option maxHeartbeats 4000000
namespace Go.Proofs.VI
open Go
/-- A text as the list of its bytes. -/
def kS (s : ByteArray) : List UInt8 := s.data.toList
theorem kS_inj {a b : ByteArray} (h : kS a = kS b) : a = b := by
  cases a with | mk x => cases b with | mk y => rw [show x = y from Array.toList_inj.1 h]
theorem kS_mk (l : List UInt8) : kS ⟨l.toArray⟩ = l := by simp [kS]
theorem ltL_irrefl : ∀ x : List UInt8, ¬ x < x := List.lt_irrefl
theorem ltL_trans {x y z : List UInt8} (h : x < y) (k : y < z) : x < z := List.lt_trans h k
theorem ltL_tri (x y : List UInt8) : x < y ∨ x = y ∨ y < x := by
  rcases Classical.em (x < y) with h | h
  · exact .inl h
  · rcases Classical.em (y < x) with k | k
    · exact .inr (.inr k)
    · exact .inr (.inl (List.le_antisymm (List.not_lt.1 k) (List.not_lt.1 h)))
theorem leL_iff (x y : List UInt8) : x ≤ y ↔ ¬ y < x := List.not_lt.symm
def SortedS (l : List ByteArray) : Prop := l.Pairwise fun a b => kS a < kS b
theorem sorted_unique : ∀ {a b : List ByteArray}, SortedS a → SortedS b → (∀ x, x ∈ a ↔ x ∈ b) → a = b
  | [], [], _, _, _ => rfl
  | [], y :: b, _, _, h => absurd ((h y).2 List.mem_cons_self) (by simp)
  | x :: a, [], _, _, h => absurd ((h x).1 List.mem_cons_self) (by simp)
  | x :: a, y :: b, ha, hb, h => by
    have ha' := List.pairwise_cons.1 ha
    have hb' := List.pairwise_cons.1 hb
    have e : x = y := by
      rcases List.mem_cons.1 ((h x).1 List.mem_cons_self) with e | e
      · exact e
      · rcases List.mem_cons.1 ((h y).2 List.mem_cons_self) with k | k
        · exact k.symm
        · exact absurd (ltL_trans (hb'.1 x e) (ha'.1 y k)) (ltL_irrefl _)
    subst e
    rw [sorted_unique ha'.2 hb'.2 fun z => ?_]
    have hz := h z
    constructor
    · intro hm
      rcases List.mem_cons.1 (hz.1 (List.mem_cons_of_mem _ hm)) with e | e
      · subst e; exact absurd (ha'.1 z hm) (ltL_irrefl _)
      · exact e
    · intro hm
      rcases List.mem_cons.1 (hz.2 (List.mem_cons_of_mem _ hm)) with e | e
      · subst e; exact absurd (hb'.1 z hm) (ltL_irrefl _)
      · exact e
/-- A text is put into texts that rise. -/
theorem any_mem (l : List ByteArray) (s : ByteArray) : (l.any fun x => decide (x = s)) = true ↔ s ∈ l := by
  rw [List.any_eq_true]
  constructor
  · rintro ⟨x, hx, h⟩
    rw [← of_decide_eq_true h]; exact hx
  · intro h; exact ⟨s, h, decide_eq_true rfl⟩
def insS (l : List ByteArray) (s : ByteArray) : List ByteArray := if (l.any fun x => decide (x = s)) = true then l else (l.filter fun x => decide (kS x < kS s)) ++ s :: (l.filter fun x => decide (kS s < kS x))
theorem insS_mem (l : List ByteArray) (s x : ByteArray) : x ∈ insS l s ↔ x = s ∨ x ∈ l := by
  unfold insS
  split
  · rename_i h
    rw [any_mem] at h
    exact ⟨.inr, fun k => k.elim (fun e => e ▸ h) id⟩
  · rename_i h
    rw [any_mem] at h
    simp only [List.mem_append, List.mem_filter, List.mem_cons, decide_eq_true_eq]
    constructor
    · rintro (⟨a, _⟩ | a | ⟨a, _⟩)
      · exact .inr a
      · exact .inl a
      · exact .inr a
    · rintro (a | a)
      · exact .inr (.inl a)
      · rcases ltL_tri (kS x) (kS s) with k | k | k
        · exact .inl ⟨a, k⟩
        · exact absurd (kS_inj k ▸ a) h
        · exact .inr (.inr ⟨a, k⟩)
theorem insS_sorted {l : List ByteArray} (h : SortedS l) (s : ByteArray) : SortedS (insS l s) := by
  unfold insS
  split
  · exact h
  · refine List.pairwise_append.2 ⟨h.filter _, List.pairwise_cons.2 ⟨fun y hy => ?_, h.filter _⟩, fun x hx y hy => ?_⟩
    · simpa using (List.mem_filter.1 hy).2
    · have hx := (List.mem_filter.1 hx).2
      simp only [decide_eq_true_eq] at hx
      rcases List.mem_cons.1 hy with rfl | hy
      · exact hx
      · have hy := (List.mem_filter.1 hy).2
        simp only [decide_eq_true_eq] at hy
        exact ltL_trans hx hy
/-- All texts, each once, rising. -/
def setS (l : List ByteArray) : List ByteArray := l.foldl insS []
theorem setS_facts (l : List ByteArray) : ∀ a, SortedS a → SortedS (l.foldl insS a) ∧ ∀ x, x ∈ l.foldl insS a ↔ x ∈ a ∨ x ∈ l := by
  induction l with
  | nil => intro a h; exact ⟨h, fun x => by simp⟩
  | cons s l ih =>
    intro a h
    obtain ⟨h1, h2⟩ := ih (insS a s) (insS_sorted h s)
    refine ⟨h1, fun x => ?_⟩
    rw [List.foldl_cons, h2, insS_mem, List.mem_cons]
    constructor
    · rintro ((a | a) | a)
      · exact .inr (.inl a)
      · exact .inl a
      · exact .inr (.inr a)
    · rintro (a | a | a)
      · exact .inl (.inr a)
      · exact .inl (.inl a)
      · exact .inr a
theorem setS_sorted (l : List ByteArray) : SortedS (setS l) := (setS_facts l [] List.Pairwise.nil).1
theorem setS_mem (l : List ByteArray) (x : ByteArray) : x ∈ setS l ↔ x ∈ l := by rw [setS, (setS_facts l [] List.Pairwise.nil).2]; simp
/-- Of what rises, each once. -/
theorem compact_facts (d : Array (List UInt8)) (hs : d.toList.Pairwise (· ≤ ·)) : ∀ m, m ≤ d.size →
    (Go.Lib.compactUpTo d m).Pairwise (· < ·) ∧ (∀ x, x ∈ Go.Lib.compactUpTo d m ↔ ∃ j, j < m ∧ d[j]! = x) := by
  have hle : ∀ i j, i < j → j < d.size → d[i]! ≤ d[j]! := fun i j hij hj => by
    have := List.pairwise_iff_getElem.1 hs i j (by simp; omega) (by simpa using hj) hij
    rw [getElem!_pos d i (by omega), getElem!_pos d j hj]
    simpa using this
  intro m
  induction m with
  | zero => intro _; exact ⟨by simp [Go.Lib.compactUpTo], fun x => by simp [Go.Lib.compactUpTo]⟩
  | succ m ih =>
    intro hm
    obtain ⟨i1, i2⟩ := ih (by omega)
    rw [Go.Lib.compactUpTo_succ]
    by_cases hk : Go.Lib.keeps d m = true
    · rw [if_pos hk]
      have hk' : m = 0 ∨ d[m]! ≠ d[m - 1]! := by simpa [Go.Lib.keeps] using hk
      refine ⟨List.pairwise_append.2 ⟨i1, List.pairwise_singleton _ _, fun x hx y hy => ?_⟩, fun x => ?_⟩
      · rw [List.mem_singleton.1 hy]
        obtain ⟨j, hj, rfl⟩ := (i2 x).1 hx
        have hne : d[m]! ≠ d[m - 1]! := by rcases hk' with h | h; omega; exact h
        have h1 : d[m - 1]! < d[m]! := by
          rcases ltL_tri d[m - 1]! d[m]! with h | h | h
          · exact h
          · exact absurd h.symm hne
          · exact absurd h ((leL_iff _ _).1 (hle (m - 1) m (by omega) (by omega)))
        by_cases e : j = m - 1
        · rw [e]; exact h1
        · have h2 := hle j (m - 1) (by omega) (by omega)
          rcases ltL_tri d[j]! d[m]! with h | h | h
          · exact h
          · rw [h] at h2; exact absurd h1 ((leL_iff _ _).1 h2)
          · exact absurd (ltL_trans h1 h) ((leL_iff _ _).1 h2)
      · simp only [List.mem_append, List.mem_singleton, i2]
        constructor
        · rintro (⟨j, hj, e⟩ | e)
          · exact ⟨j, by omega, e⟩
          · exact ⟨m, by omega, e.symm⟩
        · rintro ⟨j, hj, e⟩
          by_cases e2 : j = m
          · subst e2; exact .inr e.symm
          · exact .inl ⟨j, by omega, e⟩
    · rw [if_neg hk, List.append_nil]
      have hk' : m ≠ 0 ∧ d[m]! = d[m - 1]! := by simpa [Go.Lib.keeps] using hk
      refine ⟨i1, fun x => ?_⟩
      rw [i2]
      constructor
      · rintro ⟨j, hj, e⟩; exact ⟨j, by omega, e⟩
      · rintro ⟨j, hj, e⟩
        by_cases e2 : j = m
        · subst e2; exact ⟨j - 1, by omega, by rw [← hk'.2]; exact e⟩
        · exact ⟨j, by omega, e⟩
/-- What is sorted, and then cut. -/
def sortS (l : List ByteArray) : List ByteArray := ((l.map kS).mergeSort fun x y => decide (x ≤ y)).map fun x => ⟨x.toArray⟩
theorem sortS_len (l : List ByteArray) : (sortS l).length = l.length := by simp [sortS]
theorem sortS_keys (l : List ByteArray) : (sortS l).map kS = (l.map kS).mergeSort fun x y => decide (x ≤ y) := by
  rw [sortS, List.map_map]
  conv => rhs; rw [← List.map_id ((l.map kS).mergeSort fun x y => decide (x ≤ y))]
  exact List.map_congr_left fun x _ => kS_mk x
def cutS (l : List ByteArray) : List ByteArray := (Go.Lib.compact (l.map kS)).map fun x => ⟨x.toArray⟩
theorem cut_sort (l : List ByteArray) : cutS (sortS l) = setS l := by
  have hp : ((sortS l).map kS).toArray.toList.Pairwise (· ≤ ·) := by
    rw [sortS_keys]
    have := List.pairwise_mergeSort (le := fun x y : List UInt8 => decide (x ≤ y)) (fun a b c h1 h2 => by
      simp only [decide_eq_true_eq] at *
      exact List.le_trans h1 h2) (fun a b => by
      simp only [Bool.or_eq_true, decide_eq_true_eq]
      exact List.le_total a b) (l.map kS)
    simpa using this
  obtain ⟨h1, h2⟩ := compact_facts _ hp ((sortS l).map kS).length (by simp)
  refine sorted_unique ?_ (setS_sorted l) fun x => ?_
  · show List.Pairwise (fun a b => kS a < kS b) ((Go.Lib.compact ((sortS l).map kS)).map fun x => (⟨x.toArray⟩ : ByteArray))
    rw [List.pairwise_map]
    exact h1.imp fun h => by rw [kS_mk, kS_mk]; exact h
  · rw [setS_mem]
    have hx : x ∈ cutS (sortS l) ↔ kS x ∈ Go.Lib.compact ((sortS l).map kS) := by
      simp only [cutS, List.mem_map]
      constructor
      · rintro ⟨y, hy, rfl⟩; rw [kS_mk]; exact hy
      · intro h; exact ⟨kS x, h, by cases x; rfl⟩
    rw [hx]
    show kS x ∈ Go.Lib.compactUpTo _ _ ↔ _
    rw [h2]
    constructor
    · rintro ⟨j, hj, e⟩
      have hm : kS x ∈ (sortS l).map kS := by
        rw [← e, getElem!_pos _ j (by simpa using hj)]
        simp
        exact ⟨_, List.getElem_mem _, rfl⟩
      rw [sortS_keys, List.mem_mergeSort, List.mem_map] at hm
      obtain ⟨y, hy, e⟩ := hm
      rw [← kS_inj e]; exact hy
    · intro h
      have hm : kS x ∈ (sortS l).map kS := by rw [sortS_keys, List.mem_mergeSort]; exact List.mem_map_of_mem h
      obtain ⟨j, hj, e⟩ := List.mem_iff_getElem.1 hm
      exact ⟨j, hj, by rw [getElem!_pos _ j (by simpa using hj)]; simpa using e⟩
theorem cutS_len (l : List ByteArray) : (cutS l).length ≤ l.length := by
  simp only [cutS, List.length_map, Go.Lib.compact, Go.Lib.compactUpTo]
  exact Nat.le_trans (List.length_filter_le _ _) (by simp)
end Go.Proofs.VI
