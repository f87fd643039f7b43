/- Contracts of functions, and what they rest on: libcon. -/
import Derived.Test.YtjlonhiojgljcaaGreatN1
import Derived.Test.YtjlonhiojgljcaaGreatX1
import Derived.Test.YtjlonhiojgljcaaGreatX2
import Derived.Test.YtjlonhiojgljcaaGreatD6
import Derived.Shelf.Sort.Plain
import Derived.Shelf.Slices.In.SortNone
import Derived.Shelf.Slices.CompactS
set_option linter.unusedVariables false
set_option linter.unusedSimpArgs false
set_option maxRecDepth 10000
set_option maxHeartbeats 4000000
namespace Go.Proofs.VI
open Go
theorem row1 {x : ByteArray} {j : Nat} {v : Value} (h : [Value.string x][j]? = some v) : j = 0 ∧ v = .string x := by
  cases j with
  | zero => exact ⟨rfl, (Option.some.inj h).symm⟩
  | succ j => cases h
theorem enc_kS (s : ByteArray) : Go.Proofs.encStr (kS s) = .string s := by cases s; rfl
theorem holds_kS {l : List ByteArray} {w : World} {blk off : Nat} (h : ∀ (i : Nat) x, l[i]? = some x → w.cell? ⟨blk, off + i, none⟩ = some (.string x) ∧ w.frozen? ⟨blk, off + i, none⟩ = false) : Go.Sort.Holds Go.Proofs.encStr w blk off (l.map kS).toArray := by
  intro j hj
  have hj' : j < l.length := by simpa using hj
  have := h j l[j] (List.getElem?_eq_getElem hj')
  have e : (l.map kS).toArray[j]! = kS l[j] := by simp [hj']
  rw [e, enc_kS]
  exact this
theorem con_Sort (l : List GString) (hl : l.length ≤ 1099511627776) : Con 71 [.ow 1 (GString.ows l)] (.tup []) [some (.ow 1 (GString.ows (sortS l)))] := by
  refine contract_sort (k := 1) (by decide) GString.ow (fun s => [Value.string s]) (fun _ => rfl) (fun _ => rfl) (fun x j v hj w κ K u => ?_) [] [] (fun w κ us h => h) (Go.Proofs.enters_of Go.Proofs.Tryz.lays190.f190 (by kernel_rfl) rfl) l (sortS l) (sortS_len l) (fun _ p cap w => Go.Proofs.Any.slices_Sort_string_none Go.Proofs.Tryz.lays190 p cap w) (fun _ blk off cap w hc hb hcap => ?_)
  · have hj0 : j = 0 := by
      cases j with
      | zero => rfl
      | succ j => cases hj
    subst hj0
    rw [str_val x v hj w κ K u]
    exact ⟨fun h => by rw [h]; rfl, fun h => Option.some.inj h⟩
  · have hH := holds_kS (l := l) (w := w) (blk := blk) (off := off) (fun i x hx => by have := hc i x hx 0 _ rfl; rwa [Nat.mul_one, Nat.add_zero] at this)
    have h := Go.Proofs.Any.slices_Sort_string Go.Proofs.Tryz.lays190 blk off cap (l.map kS) w hH hb (by rw [List.length_map]; omega)
    rw [List.length_map] at h
    refine h.mono ?_
    rintro e w' ⟨rfl, n, os, rfl⟩
    refine ⟨rfl, (rowEnd_put _ w n blk off _ os hb).mono fun C C' hQ i x hx j v hv hlt => ?_⟩
    obtain ⟨rfl, rfl⟩ := row1 hv
    rw [Nat.mul_one, Nat.add_zero] at hlt ⊢
    have hi : i < (sortS l).length := (List.getElem?_eq_some_iff.1 hx).1
    have hi2 : i < ((l.map kS).mergeSort fun x y => decide (x ≤ y)).toArray.size := by simpa [sortS] using hi
    rw [hQ i hi2 hlt]
    have e : ((l.map kS).mergeSort fun x y => decide (x ≤ y)).toArray[i]! = kS x := by
      have := congrArg (fun q => q[i]?) (sortS_keys l)
      simp only [List.getElem?_map, hx, Option.map_some] at this
      rw [getElem!_def, List.getElem?_toArray, ← this]
    rw [e, enc_kS]
theorem con_Compact (l : List GString) (hl : l.length ≤ 1099511627776) : Con 72 [.ow 1 (GString.ows l)] (.ow 1 (GString.ows (cutS l))) [none] := by
  have hle : (cutS l).length ≤ l.length := cutS_len l
  refine contract_cut GString.ow (fun s => Value.string s) (fun _ => rfl) str_val (Go.Proofs.enters_of Go.Proofs.Tryz.lays194.f194 (by kernel_rfl) rfl) l (cutS l) hle (fun _ p cap w => Go.Proofs.Any.slices_Compact_string_empty Go.Proofs.Tryz.lays194 p cap w) (fun _ blk off cap w hc hb hcap => ?_)
  have hH := holds_kS (l := l) (w := w) (blk := blk) (off := off) hc
  have h := Go.Proofs.Any.slices_Compact_string Go.Proofs.Tryz.lays194 blk off cap (l.map kS) w hH (by rw [List.length_map]; omega) (by rw [List.length_map]; exact hcap)
  rw [List.length_map] at h
  have e0 : (Go.Lib.compact (l.map kS)).length = (cutS l).length := by simp [cutS]
  rw [e0] at h
  refine h.mono ?_
  rintro e w' ⟨rfl, n, rfl⟩
  refine ⟨rfl, ?_⟩
  rw [← Go.Sort.grow_empty (Go.Sort.putRow _ _ _ _ _)]
  refine (rowEnd_put _ w n blk off _ #[] hb).mono fun C C' hQ i x hx hlt => ?_
  have hi : i < (cutS l).length := (List.getElem?_eq_some_iff.1 hx).1
  have hic : i < (Go.Lib.compact (l.map kS)).length := by rw [e0]; exact hi
  rw [hQ i (by simp; omega) hlt]
  have e : (Go.Lib.compact (l.map kS) ++ List.replicate (l.length - (cutS l).length) []).toArray[i]! = kS x := by
    rw [getElem!_def, List.getElem?_toArray, List.getElem?_append_left hic]
    rw [cutS, List.getElem?_map, List.getElem?_eq_getElem hic] at hx
    rw [List.getElem?_eq_getElem hic, ← Option.some.inj hx, kS_mk]
  rw [e, enc_kS]
end Go.Proofs.VI
