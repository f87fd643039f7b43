/- Contracts of functions, and what they rest on: l10ok. -/
import Derived.Test.YtkbdnmmnnkoenaaB2
import Derived.Test.YtkbdnmmnnkoenaaB3
set_option linter.unusedVariables false
set_option linter.unusedSimpArgs false
set_option maxRecDepth 10000
set_option maxHeartbeats 4000000
namespace Go.Proofs.VI
open Go
def zeroE (a : GExpr) : Bool := decide (a.k = 0) && (decide (a.n = 0) && (decide (a.s = ⟨#[]⟩) && decide ((a.l.length : Int) = 0)))
def hereE (a : GExpr) : Bool :=
  if a.k ≠ 1 ∧ a.k ≠ 11 ∧ a.n ≠ 0 then false else if a.k ≠ 2 ∧ a.k ≠ 12 ∧ a.s ≠ ⟨#[]⟩ then false
  else if a.k = 1 then inI a.n 0 65535 && decide ((a.l.length : Int) = 0) else if a.k = 2 ∨ a.k = 12 then isNm a.s && decide ((a.l.length : Int) = 0)
  else if a.k = 3 then decide ((a.l.length : Int) = 0) else if a.k = 4 then decide ((a.l.length : Int) = 1)
  else if a.k = 5 ∨ a.k = 6 ∨ a.k = 7 ∨ a.k = 8 ∨ a.k = 9 ∨ a.k = 10 then decide ((a.l.length : Int) = 2)
  else if a.k = 11 then inI a.n 0 9 && decide ((a.l.length : Int) = 0) else false
theorem join {R A : Prop} (main : R → A) (h : R) : A := main h
def goodE (k n : Int) (s : ByteArray) : Prop := ¬ (k ≠ 1 ∧ k ≠ 11 ∧ n ≠ 0) ∧ ¬ (k ≠ 2 ∧ k ≠ 12 ∧ s ≠ ⟨#[]⟩)
mutual
def okE : GExpr → Int → Bool → Bool
  | .mk k n s l, d, p => !decide (6 < d) && (hereE (.mk k n s l) && (!(p && (decide (k = 11) || decide (k = 12))) && okL l (d + 1) p))
def okL : List GExpr → Int → Bool → Bool
  | [], _, _ => true
  | e :: l, d, p => okE e d p && okL l d p
end
theorem okL_all (l : List GExpr) (d : Int) (p : Bool) : okL l d p = l.all fun x => okE x d p := by
  induction l with
  | nil => rfl
  | cons e l ih => rw [okL, ih]; rfl
theorem okE_un (a : GExpr) (d : Int) (p : Bool) : okE a d p = (!decide (6 < d) && (hereE a && (!(p && (decide (a.k = 11) || decide (a.k = 12))) && a.l.all fun x => okE x (d + 1) p))) := by
  cases a; rw [okE, okL_all]; rfl
def argE (a : GArg) : Bool := if inI a.form 0 5 = true then inI a.reg 0 7 && zeroE a.e else if a.form = 6 ∨ a.form = 7 then inI a.reg 0 7 && okE a.e 1 true else if inI a.form 8 11 = true then decide (a.reg = 0) && okE a.e 1 true else false
theorem inI_true {x lo hi : Int} : inI x lo hi = true ↔ lo ≤ x ∧ x ≤ hi := by simp [inI]
theorem inI_false {x lo hi : Int} : inI x lo hi = false ↔ ¬ (lo ≤ x ∧ x ≤ hi) := by simp [inI]
end Go.Proofs.VI
