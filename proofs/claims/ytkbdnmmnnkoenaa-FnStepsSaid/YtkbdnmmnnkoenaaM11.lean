/- Contracts of functions, and what they rest on: l07emt. -/
import Derived.Test.YtkbdnmmnnkoenaaM10
set_option linter.unusedVariables false
set_option linter.unusedSimpArgs false
set_option maxRecDepth 10000
set_option maxHeartbeats 4000000
namespace Go.Proofs.VI
open Go
def emtV (m : GMach) (n : Int) : Option GMach := if n = 1 then (if m.out.length < 50 then some { m with out := m.out ++ [readR m 0] } else none)
  else if n = 2 then (match m.inp with | [] => some { setR m 0 65535 with c := true } | x :: t => some { setR m 0 x with inp := t, c := false })
  else none
theorem ints_sub (l : List Int) (a b : Nat) : ∀ r ∈ ((GInt.ros l).drop b).take a, ∃ q z, r = [AV.int q z] := fun r hr => by
  have h := List.mem_of_mem_drop (List.mem_of_mem_take hr)
  rw [GInt.ros_eq, List.mem_map] at h
  obtain ⟨x, _, rfl⟩ := h
  exact ⟨_, _, rfl⟩
theorem pbO (m : GMach) (rows : List (List AV)) (m' : GMach) (h : rows = GInt.ros m'.out) (he : m' = { m with out := m'.out } := by rfl) : AV.pb [.ow 1 (GInt.ows m.mem), .ow 1 (GInt.ows m.r), .bool m.n, .bool m.z, .bool m.v, .bool m.c, .ow 1 (GInt.ows m.inp), .ow 1 rows, .int .i64 m.stop] = .pb (GMach.ow m') := by
  subst h
  rw [he]; rfl
theorem pbI (m : GMach) (r rows : List (List AV)) (m' : GMach) (h : rows = GInt.ros m'.inp) (h2 : r = GInt.ros m'.r) (he : m' = { m with inp := m'.inp, r := m'.r } := by rfl) : AV.pb [.ow 1 (GInt.ows m.mem), .ow 1 r, .bool m.n, .bool m.z, .bool m.v, .bool m.c, .ow 1 rows, .ow 1 (GInt.ows m.out), .int .i64 m.stop] = .pb (GMach.ow m') := by
  subst h h2
  rw [he]; rfl
theorem outs_snoc (l : List Int) (x : Int) : GInt.ros l ++ [[.int .i64 x]] = GInt.ros (l ++ [x]) := by
  rw [GInt.ros_eq, GInt.ros_eq, List.map_append]; rfl
theorem inp_tail {l : List Int} {x : Int} {t : List Int} (h : l = x :: t) : List.take ((GInt.ros l).length - Int.toNat 1) (List.drop (Int.toNat 1) (GInt.ros l)) = GInt.ros t := by
  subst h
  simp only [List.map_cons, List.length_cons, Int.toNat_one, List.drop_succ_cons, List.drop_zero, Nat.add_sub_cancel]
  exact List.take_of_length_le (Nat.le_refl _)
theorem int_noOw (a : List Int) : noOw (GInt.ows a) := fun row hr v hv => by
  rw [GInt.ows_eq, List.mem_map] at hr
  obtain ⟨x, _, rfl⟩ := hr
  have hv : v ∈ [AV.int .i64 x] := hv
  rw [List.mem_singleton.1 hv]
  trivial
theorem impl_call (m : GMach) (n : Int) (hm : RightM m) : MethC 73 m [.int .i64 n] (emtV m n) := by
  have h0 : (0 : Int) < ((GInt.ros m.r).length : Int) := by rw [regs_len hm]; decide
  have r0 := reg_row hm (i := 0) (by decide) (by decide)
  have ho : ((GInt.ros m.out).length : Int) = m.out.length := by simp
  by_cases h1 : n = 1
  · subst h1
    by_cases hl : m.out.length < 50
    · refine MethC.ok (m' := { m with out := m.out ++ [readR m 0] }) (by rw [emtV, if_pos rfl, if_pos hl]) ?_
      refine conI [] preAll (fun _ => false) Try.func73 (fun _ h => by cases h) ?_
      refine ⟨fun _ => ⟨fun _ => ?_, fun h => ?_⟩, fun h => (nomatch h)⟩
      · refine ⟨by decide, h0, _, r0, ?_⟩
        refine ⟨trivial, ?_, ?_, by kernel_rfl, .refl _, .of_eq ?_, trivial⟩
        · simp only [List.length_map, List.length_cons, List.length_nil]; omega
        · exact ⟨⟨trivial, trivial⟩, trivial⟩
        · exact pbO m _ { m with out := m.out ++ [readR m 0] } (outs_snoc m.out _)
      · simp only [decide_eq_false_iff_not, ho] at h; omega
    · refine MethC.bad (by rw [emtV, if_pos rfl, if_neg hl]) m ?_
      refine conI [] preAll (fun _ => false) Try.func73 (fun _ h => by cases h) ?_
      refine ⟨fun _ => ⟨fun h => ?_, fun h => ⟨fun h => (nomatch h), fun _ => ⟨fun h => (nomatch h), fun _ => ⟨.refl _, .refl _, trivial⟩⟩⟩⟩, fun h => (nomatch h)⟩
      simp only [decide_eq_true_eq, ho] at h; omega
  by_cases h2 : n = 2
  · subst h2
    cases hi : m.inp with
    | nil =>
      refine MethC.ok (m' := { setR m 0 65535 with c := true }) (by rw [emtV, if_neg (by decide), if_pos rfl, hi]) ?_
      refine conI [] preAll (fun _ => false) Try.func73 (fun _ h => by cases h) ?_
      refine ⟨fun h => (nomatch h), fun _ => ⟨fun _ => ⟨fun h => ?_, fun _ => ⟨fun _ => ?_, fun h => (nomatch h)⟩⟩, fun h => (nomatch h)⟩⟩
      · rw [hi] at h; cases h
      · exact ⟨by decide, h0, _, r0, .refl _, .trans (.nb rfl) (.of_eq (pbR { m with c := true } _ _ (reg_set m 0 65535))), trivial⟩
    | cons x t =>
      refine MethC.ok (m' := { setR m 0 x with inp := t, c := false }) (by rw [emtV, if_neg (by decide), if_pos rfl, hi]) ?_
      refine conI [] preAll (fun _ => false) Try.func73 (fun _ h => by cases h) ?_
      refine ⟨fun h => (nomatch h), fun _ => ⟨fun _ => ⟨fun h => ?_, fun h => ?_⟩, fun h => (nomatch h)⟩⟩
      · have ri : (GInt.ros m.inp)[(0 : Int).toNat]? = some [.int .i64 x] := by rw [hi]; rfl
        have li : (0 : Int) < ((GInt.ros m.inp).length : Int) := by rw [hi]; simp
        refine ⟨by decide, li, _, ri, by decide, h0, _, r0, by kernel_rfl, ?_⟩
        have l1 : (1 : Int) ≤ ((GInt.ros m.inp).length : Int) := by omega
        refine ⟨by decide, l1, ints_sub m.inp _ _, .refl _, .trans (.nb rfl) (.of_eq (pbI { m with c := false } _ _ { setR m 0 x with inp := t, c := false } (inp_tail hi) (reg_set m 0 x))), trivial⟩
      · rw [hi] at h; simp at h
  · refine MethC.bad (by rw [emtV, if_neg h1, if_neg h2]) m ?_
    refine conI [] preAll (fun _ => false) Try.func73 (fun _ h => by cases h) ?_
    exact ⟨fun h => absurd (by simpa using h) h1, fun _ => ⟨fun h => absurd (by simpa using h) h2, fun _ => ⟨fun h => absurd (by simpa using h) h2, fun _ => ⟨.refl _, .refl _, trivial⟩⟩⟩⟩
theorem spec_l7Emt (m : GMach) (n : Int) (hm : RightM m) : MethC 100 m [.int .i64 n] (emtV m n) := by
  have h0 : (0 : Int) < ((GInt.ros m.r).length : Int) := by rw [regs_len hm]; decide
  have r0 := reg_row hm (i := 0) (by decide) (by decide)
  have ho : ((GInt.ros m.out).length : Int) = m.out.length := by simp
  by_cases h1 : n = 1
  · subst h1
    by_cases hl : m.out.length < 50
    · refine MethC.ok (m' := { m with out := m.out ++ [readR m 0] }) (by rw [emtV, if_pos rfl, if_pos hl]) ?_
      refine conI [] preAll (fun _ => false) Try.func100 (fun _ h => by cases h) ?_
      refine ⟨fun _ => ⟨fun _ => ?_, fun h => ?_⟩, fun h => (nomatch h)⟩
      · refine ⟨by decide, h0, _, r0, ?_⟩
        refine ⟨trivial, ?_, ?_, by kernel_rfl, .refl _, .of_eq ?_, trivial⟩
        · simp only [List.length_map, List.length_cons, List.length_nil]; omega
        · exact ⟨⟨trivial, trivial⟩, trivial⟩
        · exact pbO m _ { m with out := m.out ++ [readR m 0] } (outs_snoc m.out _)
      · simp only [decide_eq_false_iff_not, ho] at h; omega
    · refine MethC.bad (by rw [emtV, if_pos rfl, if_neg hl]) m ?_
      refine conI [] preAll (fun _ => false) Try.func100 (fun _ h => by cases h) ?_
      refine ⟨fun _ => ⟨fun h => ?_, fun h => ⟨fun h => (nomatch h), fun _ => ⟨fun h => (nomatch h), fun _ => ⟨.refl _, .refl _, trivial⟩⟩⟩⟩, fun h => (nomatch h)⟩
      simp only [decide_eq_true_eq, ho] at h; omega
  by_cases h2 : n = 2
  · subst h2
    cases hi : m.inp with
    | nil =>
      refine MethC.ok (m' := { setR m 0 65535 with c := true }) (by rw [emtV, if_neg (by decide), if_pos rfl, hi]) ?_
      refine conI [] preAll (fun _ => false) Try.func100 (fun _ h => by cases h) ?_
      refine ⟨fun h => (nomatch h), fun _ => ⟨fun _ => ⟨fun _ => ?_, fun h => ?_⟩, fun h => (nomatch h)⟩⟩
      · exact ⟨by decide, h0, _, r0, .refl _, .trans (.nb rfl) (.of_eq (pbR { m with c := true } _ _ (reg_set m 0 65535))), trivial⟩
      · rw [hi] at h; cases h
    | cons x t =>
      refine MethC.ok (m' := { setR m 0 x with inp := t, c := false }) (by rw [emtV, if_neg (by decide), if_pos rfl, hi]) ?_
      refine conI [] preAll (fun _ => false) Try.func100 (fun _ h => by cases h) ?_
      refine ⟨fun h => (nomatch h), fun _ => ⟨fun _ => ⟨fun h => ?_, fun h => ⟨fun _ => ?_, fun h => (nomatch h)⟩⟩, fun h => (nomatch h)⟩⟩
      · rw [hi] at h; simp at h; omega
      · have ri : (GInt.ros m.inp)[(0 : Int).toNat]? = some [.int .i64 x] := by rw [hi]; rfl
        have li : (0 : Int) < ((GInt.ros m.inp).length : Int) := by rw [hi]; simp
        have l1 : (1 : Int) ≤ ((GInt.ros m.inp).length : Int) := by omega
        refine ⟨by decide, li, _, ri, by decide, h0, _, r0, by kernel_rfl, ?_⟩
        have ht : t.length ≤ 50 := by have := hm.inp; rw [hi] at this; simp at this; omega
        refine ⟨by decide, l1, trivial, ?_, (by rw [inp_tail hi]; exact int_plain t), (by rw [inp_tail hi]; exact int_noOw t), .refl _, .trans (.nb rfl) (.of_eq (pbI { m with c := false } _ _ { setR m 0 x with inp := t, c := false } (inp_tail hi) (reg_set m 0 x))), trivial⟩
        rw [hi]
        show (0 + ((GInt.ros (x :: t)).length - 1)) * 8 ≤ _
        simp only [List.length_map, List.length_cons]
        omega
  · refine MethC.bad (by rw [emtV, if_neg h1, if_neg h2]) m ?_
    refine conI [] preAll (fun _ => false) Try.func100 (fun _ h => by cases h) ?_
    exact ⟨fun h => absurd (by simpa using h) h1, fun _ => ⟨fun h => absurd (by simpa using h) h2, fun _ => ⟨fun h => absurd (by simpa using h) h2, fun _ => ⟨.refl _, .refl _, trivial⟩⟩⟩⟩
end Go.Proofs.VI
