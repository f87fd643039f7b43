/- Tokens: the harness. -/
import Derived.Test.YtfhjbgicfchfkaaT
import Derived.IntWalk
set_option linter.unusedVariables false
set_option maxRecDepth 10000
namespace Go.Proofs.VI
open Go

structure Tok where
  k : Int
  n : Int
  s : ByteArray
def Tok.ro (t : Tok) : List AV := [.int .i64 t.k, .int .i64 t.n, .str t.s]
theorem w64 {x : Int} (h0 : -9223372036854775808 ≤ x) (h1 : x ≤ 9223372036854775807) : IntKind.wrap .i64 x = x := IntWalk.i64_in x ⟨h0, h1⟩
def szV (left : Int) (b : Nat) : Int := if left < b then -1 else left - b
theorem szV_lt {left : Int} {b : Nat} (h : left < b) : szV left b = -1 := if_pos h
theorem szV_ge {left : Int} {b : Nat} (h : ¬ left < b) : szV left b = left - b := if_neg h
theorem Sim.of_eq {a b : AV} (h : a = b) : Sim a b := h ▸ .refl _
theorem Sim.i64 {a b : Int} (h : a = b) : Sim (tuple [.int .i64 a]) (.int .i64 b) := h ▸ .refl _
theorem map_get {α : Type} {f : α → List AV} (l : List α) (i : Nat) (h : i < l.length) : (l.map f)[i]? = some (f l[i]) := by simp [h]

theorem szToken_ok (t : Tok) (left : Int) (h0 : 0 ≤ left) (h1 : left ≤ 1048576) (hs : t.s.size ≤ 9223372036854775807) :
    Con 44 [.agg t.ro, .int .i64 left] (.int .i64 (szV left t.s.size)) [none, none] := by
  refine con Try.func44 ?_
  refine ⟨fun h => ⟨.i64 ?_, trivial⟩, fun h => ⟨.i64 ?_, trivial⟩⟩ <;> (simp (disch := omega) only [w64, decide_eq_true_eq, decide_eq_false_iff_not] at h ⊢)
  · rw [szV_lt (by omega)]
  · rw [szV_ge (by omega)]
def Tok.bulk (t : Tok) : Nat := t.s.size
def bulkS {α : Type} (f : α → Nat) : List α → Nat
  | [] => 0
  | x :: l => 1 + f x + bulkS f l
theorem bulkS_drop {α : Type} (f : α → Nat) (l : List α) (i : Nat) (h : i < l.length) : bulkS f (l.drop i) = 1 + f l[i] + bulkS f (l.drop (i + 1)) := by
  rw [List.drop_eq_getElem_cons h]; rfl
theorem bulkS_len {α : Type} (f : α → Nat) (l : List α) : l.length ≤ bulkS f l := by
  induction l with
  | nil => simp [bulkS]
  | cons x l ih => simp only [bulkS, List.length_cons]; omega
theorem szTokenS_ok (l : List Tok) (left : Int) (h0 : 0 ≤ left) (h1 : left ≤ 1048576) (hl : l.length ≤ 9223372036854775807) (hs : ∀ t ∈ l, t.s.size ≤ 9223372036854775807) :
    Con 9 [.ro 3 (l.map Tok.ro), .int .i64 left] (.int .i64 (szV left (bulkS Tok.bulk l))) [none, none] := by
  refine con Try.func9 ?_
  have hlen : (l.map Tok.ro).length = l.length := by simp
  have hb := bulkS_len Tok.bulk l
  refine ⟨fun h => ⟨.i64 ?_, trivial⟩, fun h => ?_⟩ <;> (simp (disch := omega) only [hlen, w64, decide_eq_true_eq, decide_eq_false_iff_not] at h)
  · rw [szV_lt (by omega)]
  refine ⟨{ p : Nat × Int // p.1 ≤ l.length ∧ 0 ≤ p.2 ∧ p.2 ≤ 1048576 ∧ p.2 + (l.length - p.1 : Nat) - bulkS Tok.bulk (l.drop p.1) = left - bulkS Tok.bulk l },
    fun p => ⟨[(0, .ro 3 (l.map Tok.ro)), (1, .int .i64 p.1.2), (5, .int .i64 p.1.1)], []⟩, fun p => l.length - p.1.1, ⟨(0, left - l.length), by omega, by omega, by omega, by simp⟩, ?_, ?_⟩
  · simp (disch := omega) only [hlen, w64]
    exact ⟨rfl, rfl, rfl, trivial⟩
  rintro ⟨⟨i, x⟩, hi, hx0, hx1, hx⟩
  dsimp only at hi hx0 hx1 hx ⊢
  refine ⟨fun h => ?_, fun h => ⟨.i64 ?_, trivial⟩⟩ <;> simp only [hlen, decide_eq_true_eq, decide_eq_false_iff_not] at h
  · have hi : i < l.length := by omega
    have hd := bulkS_drop Tok.bulk l i hi
    have hk : l[i].bulk = l[i].s.size := rfl
    have hb := bulkS_len Tok.bulk (l.drop (i + 1))
    simp only [List.length_drop] at hb
    refine ⟨Int.natCast_nonneg _, _, map_get _ _ hi, [.ro, .ro], .int .i64 (szV x l[i].s.size), [none, none], szToken_ok l[i] x hx0 hx1 (hs _ (List.getElem_mem _)), trivial, fun h => ⟨.i64 ?_, trivial⟩, fun h => ?_⟩ <;> simp only [hlen, decide_eq_true_eq, decide_eq_false_iff_not] at h
    · rw [szV] at h
      rw [szV_lt (by split at h <;> omega)]
    · rw [szV] at h
      split at h; · omega
      rename_i hge
      refine ⟨⟨(i + 1, szV x l[i].s.size), by omega, by rw [szV_ge hge]; omega, by rw [szV_ge hge]; omega, ?_⟩, by show l.length - (i + 1) < l.length - i; omega, ?_⟩
      · dsimp only; rw [szV_ge hge]; omega
      · refine ⟨rfl, rfl, ?_, trivial⟩
        exact congrArg (AV.int .i64) (w64 (by omega) (by omega))
  · rw [List.drop_eq_nil_of_le (by omega)] at hx
    simp only [bulkS] at hx
    show x = _
    rw [szV_ge (by omega)]; omega

theorem toToken_ok (t : Tok) : Con 45 [.agg t.ro] (.agg t.ro) [none] := by
  refine con Try.func45 ?_
  exact ⟨.refl _, trivial⟩
def Tok.zero : List AV := [.int .i64 0, .int .i64 0, .str ⟨#[]⟩]
theorem set_take_repl {α : Type} (l : List α) (z : α) (i n : Nat) (h : i < l.length) (hn : n = l.length) :
    (l.take i ++ List.replicate (n - i) z).set i (l[i]) = l.take (i + 1) ++ List.replicate (n - (i + 1)) z := by
  subst hn
  rw [List.set_append_right _ _ (by simp; omega)]
  simp only [List.length_take, Nat.min_eq_left (by omega : i ≤ l.length), Nat.sub_self]
  rw [List.take_add_one, List.getElem?_eq_getElem h, show l.length - i = (l.length - (i + 1)) + 1 by omega, List.replicate_succ, List.append_assoc]
  rfl
theorem get_take_repl {α : Type} (l : List α) (z : α) (i n : Nat) (h : i < n) (hn : n = l.length) :
    (l.take i ++ List.replicate (n - i) z)[i]? = some z := by
  rw [List.getElem?_append_right (by simp; omega), List.getElem?_replicate]
  simp; omega
theorem toTokenS_ok (l : List Tok) (hl : l.length ≤ 1073741824) :
    Con 11 [.ro 3 (l.map Tok.ro)] (.ow 3 (l.map Tok.ro)) [none] := by
  refine con Try.func11 ?_
  have hlen : (l.map Tok.ro).length = l.length := by simp
  refine ⟨rfl, Int.natCast_nonneg _, ?_, ?_⟩
  · show (((l.map Tok.ro).length : Int)) * 32 ≤ _
    omega
  refine ⟨{ i : Nat // i ≤ l.length }, fun i => ⟨[(0, .ro 3 (l.map Tok.ro)), (3, .own 0), (4, .int .i64 i.1)], [(0, .rows 3 ((l.map Tok.ro).take i.1 ++ List.replicate (l.length - i.1) Tok.zero) [])]⟩, fun i => l.length - i.1, ⟨0, by omega⟩, ?_, ?_⟩
  · refine ⟨rfl, rfl, rfl, .of_eq ?_, trivial⟩
    show List.replicate (Int.toNat ((l.map Tok.ro).length : Int)) Tok.zero = List.replicate (l.length - 0) Tok.zero
    rw [hlen]; rfl
  · rintro ⟨i, hi⟩
    dsimp only
    refine ⟨fun h => ?_, fun h => ?_⟩ <;> simp only [hlen, decide_eq_true_eq, decide_eq_false_iff_not] at h
    · have hi : i < l.length := by omega
      refine ⟨Int.natCast_nonneg _, _, map_get _ _ hi, [.ro], .agg l[i].ro, [none], toToken_ok l[i], trivial, Int.natCast_nonneg _, ?_, Tok.zero, get_take_repl _ _ _ _ hi hlen.symm, ⟨i + 1, by omega⟩, ?_, ?_⟩
      · simp; omega
      · dsimp only; omega
      · refine ⟨rfl, congrArg (AV.int .i64) (w64 (by omega) (by omega)), rfl, .of_eq ?_, trivial⟩
        have e := set_take_repl (l.map Tok.ro) Tok.zero i l.length (by simpa using hi) hlen.symm
        rw [List.getElem_map] at e
        exact e
    · refine ⟨.of_eq (congrArg (AV.ow 3) ?_), trivial⟩
      rw [show i = l.length by omega, Nat.sub_self, List.replicate_zero, List.append_nil, List.take_of_length_le (by simp)]
end Go.Proofs.VI
