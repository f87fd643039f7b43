/- Contracts of functions, and what they rest on: l20c. -/
import Derived.Test.YtkbdnmmnnkoenaaA3
set_option linter.unusedVariables false
set_option linter.unusedSimpArgs false
set_option maxRecDepth 10000
set_option maxHeartbeats 4000000
namespace Go.Proofs.VI
open Go
theorem find_idx {α : Type} (p : α → Bool) (l : List α) (h : l.findIdx p < l.length) : l.find? p = some l[l.findIdx p] := by
  rw [List.find?_eq_some_iff_getElem]
  exact ⟨List.findIdx_getElem, _, h, rfl, fun j hj => by simpa using List.not_of_lt_findIdx hj⟩
theorem find_none' {α : Type} (p : α → Bool) (l : List α) (h : ¬ l.findIdx p < l.length) : l.find? p = none := by
  rw [List.find?_eq_none]
  intro x hx
  have := List.findIdx_eq_length.1 (show l.findIdx p = l.length from Nat.le_antisymm List.findIdx_le_length (by omega)) x hx
  simpa using this
/-- What idxOf tells of find?. -/
theorem idx_cases {α : Type} (p : α → Bool) (l : List α) : (idxOf p l = -1 ∧ l.find? p = none) ∨ ∃ (i : Nat) (h : i < l.length), idxOf p l = i ∧ l.find? p = some l[i] := by
  by_cases h : l.findIdx p < l.length
  · exact .inr ⟨_, h, by rw [idxOf, if_pos h], find_idx p l h⟩
  · exact .inl ⟨by rw [idxOf, if_neg h], find_none' p l h⟩
theorem find_hit {α : Type} (p : α → Bool) (l : List α) (i : Nat) (hi : i < l.length) (ha : ∀ j (h : j < l.length), j < i → p l[j] = false) (hp : p l[i] = true) : l.find? p = some l[i] := by
  rw [List.find?_eq_some_iff_getElem]
  exact ⟨hp, i, hi, rfl, fun j hj => by rw [ha j (by omega) hj]; rfl⟩
theorem find_miss {α : Type} (p : α → Bool) (l : List α) (ha : ∀ j (h : j < l.length), p l[j] = false) : l.find? p = none := by
  rw [List.find?_eq_none]
  intro x hx
  obtain ⟨j, hj, rfl⟩ := List.mem_iff_getElem.1 hx
  rw [ha j hj]; simp
def collect (f : Nat → Option Int) : Nat → Option (List Int)
  | 0 => some []
  | n + 1 => match collect f n, f n with
    | some l, some x => some (l ++ [x])
    | _, _ => none
theorem collect_yes {f : Nat → Option Int} {n : Nat} {l : List Int} {x : Int} (h : collect f n = some l) (hx : f n = some x) : collect f (n + 1) = some (l ++ [x]) := by rw [collect, h, hx]
theorem collect_no {f : Nat → Option Int} {i : Nat} (hx : f i = none) : ∀ n, i < n → collect f n = none
  | 0, h => by omega
  | n + 1, h => by
    rw [collect]
    rcases Nat.lt_succ_iff_lt_or_eq.1 h with h2 | h2
    · rw [collect_no hx n h2]
    · subst h2; rw [hx]; cases collect f i <;> rfl
theorem collect_len {f : Nat → Option Int} : ∀ {n : Nat} {l : List Int}, collect f n = some l → l.length = n
  | 0, l, h => by injection h with h; subst h; rfl
  | n + 1, l, h => by
    rw [collect] at h
    split at h
    · rename_i l2 x h2 _
      injection h with h; subst h
      rw [List.length_append, collect_len h2]; rfl
    · cases h
def pmatch (m s : Int) (x : GPlaced) : Bool := decide (x.mod = m) && decide (x.sect = s)
def atOf (p : List GPlaced) (m s : Int) : Option Int := (p.find? (pmatch m s)).map (·.pos)
def basesOf (l : List GObj) (p : List GPlaced) (m : Int) : List Int :=
  if inI m 0 (l.length - 1) = true then (match l[m.toNat]? with | some o => (collect (fun k => atOf p m k) o.sects.length).getD [] | none => []) else []
theorem int_app (a b : List Int) : GInt.ows a ++ GInt.ows b = GInt.ows (a ++ b) := List.map_append.symm
theorem int_len (a : List Int) : (GInt.ows a).length = a.length := by simp
theorem int_plain (a : List Int) : plainRows (GInt.ows a) := by
  induction a with
  | nil => trivial
  | cons x l ih => exact ⟨⟨trivial, trivial⟩, ih⟩
theorem cntI (l : List Int) : cntS GInt.w l = l.length := by
  induction l with
  | nil => rfl
  | cons x l ih =>
    have : GInt.w x = 1 := rfl
    simp only [cntS, ih, List.length_cons]; omega
theorem basesOf_len (l : List GObj) (p : List GPlaced) (m : Int) (hf : ∀ o ∈ l, GObj.fit o) : (basesOf l p m).length ≤ 1099511627776 := by
  rw [basesOf]
  split
  · rename_i h
    obtain ⟨h0, o, ho, hlt, he⟩ := inI_get h
    rw [ho]
    have fo := GObj.fit_un (hf o (by rw [he]; exact List.getElem_mem _))
    simp only
    cases hc : collect (fun k => atOf p m k) o.sects.length with
    | none => simp
    | some r => rw [Option.getD_some, collect_len hc]; exact fo.1.1
  · simp
end Go.Proofs.VI
