/- Contracts of functions, and what they rest on: l10same. -/
import Derived.Test.YtkbdnmmnnkoenaaD2
set_option linter.unusedVariables false
set_option linter.unusedSimpArgs false
set_option maxRecDepth 10000
set_option maxHeartbeats 4000000
namespace Go.Proofs.VI
open Go
def all2 {α β : Type} (p : α → β → Bool) : List α → List β → Bool
  | [], _ => true
  | _ :: _, [] => false
  | x :: l, y :: m => p x y && all2 p l m
theorem all2_true {α β : Type} (p : α → β → Bool) : ∀ (l : List α) (m : List β), l.length = m.length → (∀ j (h : j < l.length) (h' : j < m.length), p l[j] m[j] = true) → all2 p l m = true
  | [], _, _, _ => rfl
  | x :: l, [], h, _ => by simp at h
  | x :: l, y :: m, h, hj => by
    rw [all2, all2_true p l m (by simpa using h) fun j h1 h2 => hj (j + 1) (by simpa using h1) (by simpa using h2)]
    have := hj 0 (by simp) (by simp)
    simpa using this
theorem all2_false {α β : Type} (p : α → β → Bool) : ∀ (l : List α) (m : List β) (j : Nat) (h : j < l.length) (h' : j < m.length), p l[j] m[j] = false → all2 p l m = false
  | [], _, _, h, _, _ => by simp at h
  | x :: l, [], _, _, h', _ => by simp at h'
  | x :: l, y :: m, 0, _, _, hj => by
    rw [all2, show p x y = false from hj]; rfl
  | x :: l, y :: m, j + 1, h, h', hj => by
    rw [all2, all2_false p l m j (by simpa using h) (by simpa using h') hj]; simp
mutual
def sameE : GExpr → GExpr → Bool
  | .mk k n s l, b => decide (k = b.k) && decide (n = b.n) && decide (s = b.s) && decide (l.length = b.l.length) && sameL l b.l
def sameL : List GExpr → List GExpr → Bool
  | [], _ => true
  | _ :: _, [] => false
  | x :: l, y :: m => sameE x y && sameL l m
end
theorem sameL_all2 : ∀ (l m : List GExpr), sameL l m = all2 sameE l m
  | [], _ => by rw [sameL, all2]
  | _ :: _, [] => by rw [sameL, all2]
  | x :: l, y :: m => by rw [sameL, all2, sameL_all2 l m]
theorem sameE_un (a b : GExpr) : sameE a b = (decide (a.k = b.k) && decide (a.n = b.n) && decide (a.s = b.s) && decide (a.l.length = b.l.length) && all2 sameE a.l b.l) := by
  cases a; rw [sameE, sameL_all2]; rfl
theorem ros_get (l : List GExpr) (i : Nat) (h : i < l.length) : (GExpr.ros l)[i]? = some (GExpr.ro l[i]) := by rw [GExpr.ros_eq, map_get _ _ h]
theorem ros_len (l : List GExpr) : (GExpr.ros l).length = l.length := by rw [GExpr.ros_eq, List.length_map]
theorem k_mk (k n : Int) (s : ByteArray) (l : List GExpr) : (GExpr.mk k n s l).k = k := rfl
theorem n_mk (k n : Int) (s : ByteArray) (l : List GExpr) : (GExpr.mk k n s l).n = n := rfl
theorem s_mk (k n : Int) (s : ByteArray) (l : List GExpr) : (GExpr.mk k n s l).s = s := rfl
theorem l_mk (k n : Int) (s : ByteArray) (l : List GExpr) : (GExpr.mk k n s l).l = l := rfl
theorem ows_snoc (l : List GExpr) (x : GExpr) : GExpr.ows (l ++ [x]) = GExpr.ows l ++ [GExpr.ow x] := by simp [GExpr.ows_eq]
theorem ows_len (l : List GExpr) : (GExpr.ows l).length = l.length := by rw [GExpr.ows_eq, List.length_map]
theorem snoc_row (l : List GExpr) (x : GExpr) : (GExpr.ows l ++ [[AV.int .i64 x.k, .int .i64 x.n, .str x.s, .nilp]]).modify ((GExpr.ows l).length + 0) (fun row => row.set 3 (.ow 4 (GExpr.ows x.l))) = GExpr.ows (l ++ [x]) := by
  rw [modify_end, ows_snoc]; rfl
theorem GExpr.ok_mk {k n : Int} {s : ByteArray} {l : List GExpr} (hk : -9223372036854775808 ≤ k ∧ k ≤ 9223372036854775807) (hn : -9223372036854775808 ≤ n ∧ n ≤ 9223372036854775807) (hs : s.size ≤ 9223372036854775807) (hl : l.length ≤ 9223372036854775807) (h : ∀ x ∈ l, GExpr.ok x) : GExpr.ok (.mk k n s l) := by
  rw [GExpr.ok, GExpr.okL_iff]; exact ⟨hk, hn, hs, hl, h⟩
def sameSect (x y : GSect) : Bool := decide (x.name = y.name) && (x.over == y.over) && decide (x.words.length = y.words.length) && all2 sameE x.words y.words
def sameGlob (x y : GGlob) : Bool := decide (x.name = y.name) && sameE x.e y.e
def sameObj (a b : GObj) : Bool := decide (a.sects.length = b.sects.length) && decide (a.globs.length = b.globs.length) && all2 sameSect a.sects b.sects && all2 sameGlob a.globs b.globs
theorem sameObj_sects {a b : GObj} (i : Nat) (h : i < a.sects.length) (h' : i < b.sects.length) (hs : sameSect a.sects[i] b.sects[i] = false) : sameObj a b = false := by
  rw [sameObj, all2_false sameSect _ _ i h h' hs]; simp
theorem sameObj_globs {a b : GObj} (i : Nat) (h : i < a.globs.length) (h' : i < b.globs.length) (hs : sameGlob a.globs[i] b.globs[i] = false) : sameObj a b = false := by
  rw [sameObj, all2_false sameGlob _ _ i h h' hs]; simp
end Go.Proofs.VI
