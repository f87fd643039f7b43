/- Contracts of functions, and what they rest on: l07one. -/
import Derived.Test.YtkbdnmmnnkoenaaM8
set_option linter.unusedVariables false
set_option linter.unusedSimpArgs false
set_option maxRecDepth 10000
set_option maxHeartbeats 4000000
namespace Go.Proofs.VI
open Go
def signedV (x : Int) : Int := if 32767 < wr16 x then wr16 x - 65536 else wr16 x
def sglR (op d : Int) : Int := if op = 7 then 0 else if op = 8 then wr16 (d + 1) else if op = 9 then wr16 (d - 1) else if op = 10 then wr16 (-d) else if op = 11 then d else if op = 12 then wr16 (shrI .i64 (signedV d) 1) else wr16 (2 * d)
def sglC (c : Bool) (op d : Int) : Bool := if op = 7 then false else if op = 8 then c else if op = 9 then c else if op = 10 then decide (wr16 (-d) ≠ 0) else if op = 11 then false else if op = 12 then decide (d.tmod 2 = 1) else minus d
def sglO (op d : Int) : Bool := if op = 7 then false else if op = 8 then decide (d = 32767) else if op = 9 then decide (d = 32768) else if op = 10 then decide (wr16 (-d) = 32768) else if op = 11 then false else (minus (sglR op d) != sglC false op d)
def sglM (m : GMach) (op d : Int) : GMach := { m with n := minus (sglR op d), z := decide (sglR op d = 0), v := sglO op d, c := sglC m.c op d }
def sglV (m : GMach) (op : Int) (p : GPlace) : Option GMach := match ldV m p with
  | none => none
  | some d => if op = 11 then some (sglM m op d) else stoV (sglM m op d) p (sglR op d)
theorem sglM_eq (m : GMach) (op d r : Int) (C V : Bool) (hr : sglR op d = r) (hC : sglC m.c op d = C) (hO : sglO op d = V) : sglM m op d = { m with n := minus r, z := decide (r = 0), v := V, c := C } := by
  subst hr hC hO; rfl
theorem stoV_wr (m : GMach) (p : GPlace) (v : Int) : stoV m p (wr16 v) = stoV m p v := by
  have h : wr16 (wr16 v) = wr16 v := by simp only [wr16]; omega
  rw [stoV, stoV, writeV, writeV, h]
theorem signedV_in (x : Int) : -32768 ≤ signedV x ∧ signedV x ≤ 32767 := by
  have := wr16_in x
  rw [signedV]; split <;> omega
theorem sglR_in {op d : Int} (hd : 0 ≤ d ∧ d ≤ 65535) : 0 ≤ sglR op d ∧ sglR op d ≤ 65535 := by
  unfold sglR
  repeat' split
  all_goals first | exact hd | exact wr16_in _ | decide
theorem impl_Signed (x : Int) : Con 15 [.int .i64 x] (.int .i64 (signedV x)) [none] := by
  have hb := wr16_in x
  refine con Try.func15 ?_
  refine ⟨[.ro], .int .i64 (wr16 x), [none], impl_Wrap x, trivial, fun h => ⟨.of_eq (congrArg (AV.int .i64) ?_), trivial⟩, fun h => ⟨.of_eq (congrArg (AV.int .i64) ?_), trivial⟩⟩
  · simp only [decide_eq_true_eq] at h
    rw [signedV, if_pos h]; exact w64 (by omega) (by omega)
  · simp only [decide_eq_false_iff_not] at h
    rw [signedV, if_neg h]
theorem spec_Signed (x : Int) : Con 117 [.int .i64 x] (.int .i64 (signedV x)) [none] := by
  have hb := wr16_in x
  refine con Try.func117 ?_
  refine ⟨[.ro], .int .i64 (wr16 x), [none], spec_Wrap x, trivial, fun h => ⟨.of_eq (congrArg (AV.int .i64) ?_), trivial⟩, fun h => ⟨.of_eq (congrArg (AV.int .i64) ?_), trivial⟩⟩
  · simp only [decide_eq_true_eq] at h
    rw [signedV, if_pos (by omega)]; exact w64 (by omega) (by omega)
  · simp only [decide_eq_false_iff_not] at h
    rw [signedV, if_neg (by omega)]
theorem impl_single (m : GMach) (op : Int) (p : GPlace) (hm : RightM m) (hp : PlaceR p) (ho : 7 ≤ op ∧ op ≤ 13) : MethC 70 m [.int .i64 op, .agg (GPlace.ro p)] (sglV m op p) := by
  have hcase : op = 7 ∨ op = 8 ∨ op = 9 ∨ op = 10 ∨ op = 11 ∨ op = 12 ∨ op = 13 := by omega
  have cl := impl_Load m p hm hp
  cases hl : ldV m p with
  | none =>
    rw [hl] at cl
    refine MethC.bad (by unfold sglV; rw [hl]) m ?_
    refine conI [] pre1 (fun _ => false) Try.func70 (fun _ h => by cases h) ?_
    refine ⟨[.ro, .ro], .tup [.int .i64 0, .ff], [none, none], (by rw [mach_toRo]; exact .nbr rfl cl), ⟨⟨trivial, trivial, trivial⟩, trivial⟩, by kernel_rfl, ?_⟩
    exact ⟨.refl _, .refl _, trivial⟩
  | some d =>
    rw [hl] at cl
    have hd := ldV_right hm hl
    have hs := signedV_in d
    have hM' : RightM (sglM m op d) := hm.of rfl
    have e1 : IntKind.wrap .i64 (d + 1) = d + 1 := w64 (by omega) (by omega)
    have e2 : IntKind.wrap .i64 (d - 1) = d - 1 := w64 (by omega) (by omega)
    have e3 : IntKind.wrap .i64 (-d) = -d := w64 (by omega) (by omega)
    have e4 : IntKind.wrap .i64 (2 * d) = 2 * d := w64 (by omega) (by omega)
    have hv : sglV m op p = if op = 11 then some (sglM m op d) else stoV (sglM m op d) p (sglR op d) := by unfold sglV; rw [hl]
    rcases hcase with rfl | rfl | rfl | rfl | rfl | rfl | rfl
    · have hM := sglM_eq m 7 d (0) (false) (false) rfl rfl rfl
      obtain ⟨m', h', c⟩ := impl_put (sglM m 7 d) p (sglR 7 d) hM' hp
      replace hv : sglV m 7 p = stoV (sglM m 7 d) p (sglR 7 d) := hv
      generalize stoV (sglM m 7 d) p (sglR 7 d) = q at hv h' c
      rw [hM] at c
      refine MethC.of hv m' h' ?_
      refine conI [] pre1 (fun _ => false) Try.func70 (fun _ h => by cases h) ?_
      refine ⟨[.ro, .ro], .tup [.int .i64 d, .tt], [none, none], (by rw [mach_toRo]; exact .nbr rfl cl), ⟨⟨trivial, trivial, trivial⟩, trivial⟩, by kernel_rfl, ?_⟩
      refine ⟨fun _ => ?_, fun h => (nomatch h)⟩
      refine ⟨[.mut, .ro], .tup [], [some (.pb (GMach.ow (nzM { m with v := false, c := false } (0)))), none], impl_flagsOf { m with v := false, c := false } (0), trivial, ?_⟩
      refine ⟨fun _ => ⟨fun h => (nomatch h), fun _ => ?_⟩, fun h => (nomatch h)⟩
      exact ⟨fun _ => ⟨[.mut, .ro, .ro], .bool q.isSome, [some (.pb (GMach.ow m')), none, none], c, trivial, .refl _, .refl _, trivial⟩, fun h => (nomatch h)⟩
    · have hM := sglM_eq m 8 d (wr16 (d + 1)) (m.c) (decide (d = 32767)) rfl rfl rfl
      obtain ⟨m', h', c⟩ := impl_put (sglM m 8 d) p (sglR 8 d) hM' hp
      replace hv : sglV m 8 p = stoV (sglM m 8 d) p (sglR 8 d) := hv
      generalize stoV (sglM m 8 d) p (sglR 8 d) = q at hv h' c
      rw [hM] at c
      refine MethC.of hv m' h' ?_
      refine conI [] pre1 (fun _ => false) Try.func70 (fun _ h => by cases h) ?_
      refine ⟨[.ro, .ro], .tup [.int .i64 d, .tt], [none, none], (by rw [mach_toRo]; exact .nbr rfl cl), ⟨⟨trivial, trivial, trivial⟩, trivial⟩, by kernel_rfl, ?_⟩
      refine ⟨fun h => (nomatch h), fun _ => ⟨fun _ => ?_, fun h => (nomatch h)⟩⟩
      refine ⟨[.ro], .int .i64 (wr16 (d + 1)), [none], (by rw [e1]; exact impl_Wrap _), trivial, ?_⟩
      refine ⟨[.mut, .ro], .tup [], [some (.pb (GMach.ow (nzM { m with v := decide (d = 32767), c := m.c } (wr16 (d + 1))))), none], impl_flagsOf { m with v := decide (d = 32767), c := m.c } (wr16 (d + 1)), trivial, ?_⟩
      refine ⟨fun _ => ⟨fun h => (nomatch h), fun _ => ?_⟩, fun h => (nomatch h)⟩
      exact ⟨fun _ => ⟨[.mut, .ro, .ro], .bool q.isSome, [some (.pb (GMach.ow m')), none, none], c, trivial, .refl _, .refl _, trivial⟩, fun h => (nomatch h)⟩
    · have hM := sglM_eq m 9 d (wr16 (d - 1)) (m.c) (decide (d = 32768)) rfl rfl rfl
      obtain ⟨m', h', c⟩ := impl_put (sglM m 9 d) p (sglR 9 d) hM' hp
      replace hv : sglV m 9 p = stoV (sglM m 9 d) p (sglR 9 d) := hv
      generalize stoV (sglM m 9 d) p (sglR 9 d) = q at hv h' c
      rw [hM] at c
      refine MethC.of hv m' h' ?_
      refine conI [] pre1 (fun _ => false) Try.func70 (fun _ h => by cases h) ?_
      refine ⟨[.ro, .ro], .tup [.int .i64 d, .tt], [none, none], (by rw [mach_toRo]; exact .nbr rfl cl), ⟨⟨trivial, trivial, trivial⟩, trivial⟩, by kernel_rfl, ?_⟩
      refine ⟨fun h => (nomatch h), fun _ => ⟨fun h => (nomatch h), fun _ => ⟨fun _ => ?_, fun h => (nomatch h)⟩⟩⟩
      refine ⟨[.ro], .int .i64 (wr16 (d - 1)), [none], (by rw [e2]; exact impl_Wrap _), trivial, ?_⟩
      refine ⟨[.mut, .ro], .tup [], [some (.pb (GMach.ow (nzM { m with v := decide (d = 32768), c := m.c } (wr16 (d - 1))))), none], impl_flagsOf { m with v := decide (d = 32768), c := m.c } (wr16 (d - 1)), trivial, ?_⟩
      refine ⟨fun _ => ⟨fun h => (nomatch h), fun _ => ?_⟩, fun h => (nomatch h)⟩
      exact ⟨fun _ => ⟨[.mut, .ro, .ro], .bool q.isSome, [some (.pb (GMach.ow m')), none, none], c, trivial, .refl _, .refl _, trivial⟩, fun h => (nomatch h)⟩
    · have hM := sglM_eq m 10 d (wr16 (-d)) (decide (wr16 (-d) ≠ 0)) (decide (wr16 (-d) = 32768)) rfl rfl rfl
      obtain ⟨m', h', c⟩ := impl_put (sglM m 10 d) p (sglR 10 d) hM' hp
      replace hv : sglV m 10 p = stoV (sglM m 10 d) p (sglR 10 d) := hv
      generalize stoV (sglM m 10 d) p (sglR 10 d) = q at hv h' c
      rw [hM] at c
      refine MethC.of hv m' h' ?_
      refine conI [] pre1 (fun _ => false) Try.func70 (fun _ h => by cases h) ?_
      refine ⟨[.ro, .ro], .tup [.int .i64 d, .tt], [none, none], (by rw [mach_toRo]; exact .nbr rfl cl), ⟨⟨trivial, trivial, trivial⟩, trivial⟩, by kernel_rfl, ?_⟩
      refine ⟨fun h => (nomatch h), fun _ => ⟨fun h => (nomatch h), fun _ => ⟨fun h => (nomatch h), fun _ => ⟨fun _ => ?_, fun h => (nomatch h)⟩⟩⟩⟩
      refine ⟨[.ro], .int .i64 (wr16 (-d)), [none], (by rw [e3]; exact impl_Wrap _), trivial, ?_⟩
      refine ⟨[.mut, .ro], .tup [], [some (.pb (GMach.ow (nzM { m with v := decide (wr16 (-d) = 32768), c := decide (wr16 (-d) ≠ 0) } (wr16 (-d))))), none], impl_flagsOf { m with v := decide (wr16 (-d) = 32768), c := decide (wr16 (-d) ≠ 0) } (wr16 (-d)), trivial, ?_⟩
      refine ⟨fun _ => ⟨fun h => (nomatch h), fun _ => ?_⟩, fun h => (nomatch h)⟩
      exact ⟨fun _ => ⟨[.mut, .ro, .ro], .bool q.isSome, [some (.pb (GMach.ow m')), none, none], c, trivial, .refl _, .refl _, trivial⟩, fun h => (nomatch h)⟩
    · have hM := sglM_eq m 11 d (d) (false) (false) rfl rfl rfl
      refine MethC.ok (m' := sglM m 11 d) hv ?_
      refine conI [] pre1 (fun _ => false) Try.func70 (fun _ h => by cases h) ?_
      refine ⟨[.ro, .ro], .tup [.int .i64 d, .tt], [none, none], (by rw [mach_toRo]; exact .nbr rfl cl), ⟨⟨trivial, trivial, trivial⟩, trivial⟩, by kernel_rfl, ?_⟩
      refine ⟨fun h => (nomatch h), fun _ => ⟨fun h => (nomatch h), fun _ => ⟨fun h => (nomatch h), fun _ => ⟨fun h => (nomatch h), fun _ => ⟨fun _ => ?_, fun h => (nomatch h)⟩⟩⟩⟩⟩
      refine ⟨[.mut, .ro], .tup [], [some (.pb (GMach.ow (nzM { m with v := false, c := false } (d)))), none], impl_flagsOf { m with v := false, c := false } (d), trivial, ?_⟩
      refine ⟨fun _ => ⟨fun h => (nomatch h), fun _ => ?_⟩, fun h => (nomatch h)⟩
      exact ⟨fun h => (nomatch h), fun _ => ⟨.refl _, .of_eq (pbE hM), trivial⟩⟩
    · have hM := sglM_eq m 12 d (wr16 (shrI .i64 (signedV d) 1)) (decide (d.tmod 2 = 1)) (minus (wr16 (shrI .i64 (signedV d) 1)) != decide (d.tmod 2 = 1)) rfl rfl rfl
      obtain ⟨m', h', c⟩ := impl_put (sglM m 12 d) p (sglR 12 d) hM' hp
      replace hv : sglV m 12 p = stoV (sglM m 12 d) p (sglR 12 d) := hv
      generalize stoV (sglM m 12 d) p (sglR 12 d) = q at hv h' c
      rw [hM] at c
      refine MethC.of hv m' h' ?_
      refine conI [] pre1 (fun _ => false) Try.func70 (fun _ h => by cases h) ?_
      refine ⟨[.ro, .ro], .tup [.int .i64 d, .tt], [none, none], (by rw [mach_toRo]; exact .nbr rfl cl), ⟨⟨trivial, trivial, trivial⟩, trivial⟩, by kernel_rfl, ?_⟩
      refine ⟨fun h => (nomatch h), fun _ => ⟨fun h => (nomatch h), fun _ => ⟨fun h => (nomatch h), fun _ => ⟨fun h => (nomatch h), fun _ => ⟨fun h => (nomatch h), fun _ => ⟨fun _ => ?_, fun h => (nomatch h)⟩⟩⟩⟩⟩⟩
      refine ⟨[.ro], .int .i64 (signedV d), [none], impl_Signed d, trivial, by decide, [.ro], .int .i64 (wr16 (shrI .i64 (signedV d) 1)), [none], impl_Wrap _, trivial, by decide, ?_⟩
      refine ⟨[.mut, .ro], .tup [], [some (.pb (GMach.ow (nzM { m with v := m.v, c := decide (d.tmod 2 = 1) } (wr16 (shrI .i64 (signedV d) 1))))), none], impl_flagsOf { m with v := m.v, c := decide (d.tmod 2 = 1) } (wr16 (shrI .i64 (signedV d) 1)), trivial, ?_⟩
      refine ⟨fun h => (nomatch h), fun _ => ⟨by kernel_rfl, ?_⟩⟩
      exact ⟨fun _ => ⟨[.mut, .ro, .ro], .bool q.isSome, [some (.pb (GMach.ow m')), none, none], c, trivial, .refl _, .refl _, trivial⟩, fun h => (nomatch h)⟩
    · have hM := sglM_eq m 13 d (wr16 (2 * d)) (minus d) (minus (wr16 (2 * d)) != minus d) rfl rfl rfl
      obtain ⟨m', h', c⟩ := impl_put (sglM m 13 d) p (sglR 13 d) hM' hp
      replace hv : sglV m 13 p = stoV (sglM m 13 d) p (sglR 13 d) := hv
      generalize stoV (sglM m 13 d) p (sglR 13 d) = q at hv h' c
      rw [hM] at c
      refine MethC.of hv m' h' ?_
      refine conI [] pre1 (fun _ => false) Try.func70 (fun _ h => by cases h) ?_
      refine ⟨[.ro, .ro], .tup [.int .i64 d, .tt], [none, none], (by rw [mach_toRo]; exact .nbr rfl cl), ⟨⟨trivial, trivial, trivial⟩, trivial⟩, by kernel_rfl, ?_⟩
      refine ⟨fun h => (nomatch h), fun _ => ⟨fun h => (nomatch h), fun _ => ⟨fun h => (nomatch h), fun _ => ⟨fun h => (nomatch h), fun _ => ⟨fun h => (nomatch h), fun _ => ⟨fun h => (nomatch h), fun _ => ⟨fun _ => ?_, fun h => (nomatch h)⟩⟩⟩⟩⟩⟩⟩
      refine ⟨[.ro], .int .i64 (wr16 (2 * d)), [none], (by rw [e4]; exact impl_Wrap _), trivial, ?_⟩
      refine ⟨[.ro], .bool (minus d), [none], impl_isMinus d, trivial, ?_⟩
      refine ⟨[.mut, .ro], .tup [], [some (.pb (GMach.ow (nzM { m with v := m.v, c := minus d } (wr16 (2 * d))))), none], impl_flagsOf { m with v := m.v, c := minus d } (wr16 (2 * d)), trivial, ?_⟩
      refine ⟨fun _ => ⟨fun _ => ⟨by kernel_rfl, ?_⟩, fun h => (nomatch h)⟩, fun h => (nomatch h)⟩
      exact ⟨fun _ => ⟨[.mut, .ro, .ro], .bool q.isSome, [some (.pb (GMach.ow m')), none, none], c, trivial, .refl _, .refl _, trivial⟩, fun h => (nomatch h)⟩
theorem and_one (d : Int) (hd : 0 ≤ d) : decide (d.tmod 2 = 1) = decide (bitsI .and .i64 d 1 = 1) := by
  have h : bitsI .and .i64 d 1 = d % 2 := and_mask d 1 (by decide)
  rw [h, tmod2 hd]
theorem spec_l7Shift (m : GMach) (op d : Int) (p : GPlace) (hm : RightM m) (hp : PlaceR p) (hd : 0 ≤ d ∧ d ≤ 65535) (ho : 12 ≤ op ∧ op ≤ 13) : MethC 112 m [.int .i64 op, .int .i64 d, .agg (GPlace.ro p)] (stoV (sglM m op d) p (sglR op d)) := by
  have hcase : op = 12 ∨ op = 13 := by omega
  have hs := signedV_in d
  have hM' : RightM (sglM m op d) := hm.of rfl
  have hR := sglR_in (op := op) hd
  have e4 : IntKind.wrap .i64 (d * 2) = 2 * d := by rw [w64 (by omega) (by omega)]; omega
  obtain ⟨m', h', c⟩ := spec_l7Put (sglM m op d) p (sglR op d) hM' hp
  generalize stoV (sglM m op d) p (sglR op d) = q at h' c ⊢
  rcases hcase with rfl | rfl
  · have hM := sglM_eq m 12 d (wr16 (shrI .i64 (signedV d) 1)) (decide (bitsI .and .i64 d 1 = 1)) (minus (wr16 (shrI .i64 (signedV d) 1)) != decide (bitsI .and .i64 d 1 = 1)) rfl (and_one d hd.1) (by rw [← and_one d hd.1]; rfl)
    rw [hM] at c
    refine MethC.of rfl m' h' ?_
    refine con Try.func112 ?_
    refine ⟨[.ro], .int .i64 (wr16 (2 * d)), [none], (by rw [e4]; exact spec_Wrap _), trivial, [.ro], .bool (minus d), [none], spec_sign hd, trivial, fun _ => ?_, fun h => (nomatch h)⟩
    refine ⟨[.ro], .int .i64 (signedV d), [none], spec_Signed d, trivial, by decide, [.ro], .int .i64 (wr16 (shrI .i64 (signedV d) 1)), [none], spec_Wrap _, trivial, ?_⟩
    refine ⟨[.ro], .bool (minus (wr16 (shrI .i64 (signedV d) 1))), [none], spec_sign hR, trivial, ?_⟩
    exact ⟨[.mut, .ro, .ro], .tup [], [some (.pb (GMach.ow { nzM m (wr16 (shrI .i64 (signedV d) 1)) with v := minus (wr16 (shrI .i64 (signedV d) 1)) != decide (bitsI .and .i64 d 1 = 1) })), none, none], spec_nz m _ hR, trivial, [.mut, .ro, .ro], .bool q.isSome, [some (.pb (GMach.ow m')), none, none], c, trivial, .refl _, .refl _, trivial⟩
  · have hM := sglM_eq m 13 d (wr16 (2 * d)) (minus d) (minus (wr16 (2 * d)) != minus d) rfl rfl rfl
    rw [hM] at c
    refine MethC.of rfl m' h' ?_
    refine con Try.func112 ?_
    refine ⟨[.ro], .int .i64 (wr16 (2 * d)), [none], (by rw [e4]; exact spec_Wrap _), trivial, [.ro], .bool (minus d), [none], spec_sign hd, trivial, fun h => (nomatch h), fun _ => ?_⟩
    refine ⟨[.ro], .bool (minus (wr16 (2 * d))), [none], spec_sign hR, trivial, ?_⟩
    exact ⟨[.mut, .ro, .ro], .tup [], [some (.pb (GMach.ow { nzM m (wr16 (2 * d)) with v := minus (wr16 (2 * d)) != minus d })), none, none], spec_nz m _ hR, trivial, [.mut, .ro, .ro], .bool q.isSome, [some (.pb (GMach.ow m')), none, none], c, trivial, .refl _, .refl _, trivial⟩
theorem spec_l7One (m : GMach) (op : Int) (p : GPlace) (hm : RightM m) (hp : PlaceR p) (ho : 7 ≤ op ∧ op ≤ 13) : MethC 97 m [.int .i64 op, .agg (GPlace.ro p)] (sglV m op p) := by
  have hcase : op = 7 ∨ op = 8 ∨ op = 9 ∨ op = 10 ∨ op = 11 ∨ op = 12 ∨ op = 13 := by omega
  have cl := spec_Load m p hm hp
  cases hl : ldV m p with
  | none =>
    rw [hl] at cl
    refine MethC.bad (by unfold sglV; rw [hl]) m ?_
    refine conI [] pre1 (fun _ => false) Try.func97 (fun _ h => by cases h) ?_
    refine ⟨[.ro, .ro], .tup [.int .i64 0, .ff], [none, none], (by rw [mach_toRo]; exact .nbr rfl cl), ⟨⟨trivial, trivial, trivial⟩, trivial⟩, by kernel_rfl, ?_⟩
    exact ⟨.refl _, .refl _, trivial⟩
  | some d =>
    rw [hl] at cl
    have hd := ldV_right hm hl
    have hM' : RightM (sglM m op d) := hm.of rfl
    have e1 : IntKind.wrap .i64 (d + 1) = d + 1 := w64 (by omega) (by omega)
    have e2 : IntKind.wrap .i64 (d - 1) = d - 1 := w64 (by omega) (by omega)
    have e3 : IntKind.wrap .i64 (-d) = -d := w64 (by omega) (by omega)
    have hv : sglV m op p = if op = 11 then some (sglM m op d) else stoV (sglM m op d) p (sglR op d) := by unfold sglV; rw [hl]
    rcases hcase with rfl | rfl | rfl | rfl | rfl | rfl | rfl
    · have hM := sglM_eq m 7 d (0) (false) (false) rfl rfl rfl
      obtain ⟨m', h', c⟩ := spec_l7Put (sglM m 7 d) p (0) hM' hp
      replace hv : sglV m 7 p = stoV (sglM m 7 d) p (0) := hv
      generalize stoV (sglM m 7 d) p (0) = q at hv h' c
      rw [hM] at c
      refine MethC.of hv m' h' ?_
      refine conI [] pre1 (fun _ => false) Try.func97 (fun _ h => by cases h) ?_
      refine ⟨[.ro, .ro], .tup [.int .i64 d, .tt], [none, none], (by rw [mach_toRo]; exact .nbr rfl cl), ⟨⟨trivial, trivial, trivial⟩, trivial⟩, by kernel_rfl, ?_⟩
      refine ⟨fun _ => ?_, fun h => (nomatch h)⟩
      refine ⟨[.mut, .ro, .ro], .tup [], [some (.pb (GMach.ow ({ nzM m (0) with v := false }))), none, none], spec_nz m false (by decide), trivial, ?_⟩
      exact ⟨[.mut, .ro, .ro], .bool q.isSome, [some (.pb (GMach.ow m')), none, none], c, trivial, .refl _, .refl _, trivial⟩
    · have hM := sglM_eq m 8 d (wr16 (d + 1)) (m.c) (decide (d = 32767)) rfl rfl rfl
      obtain ⟨m', h', c⟩ := spec_l7Put (sglM m 8 d) p (d + 1) hM' hp
      replace hv : sglV m 8 p = stoV (sglM m 8 d) p (d + 1) := hv.trans (stoV_wr _ _ _)
      generalize stoV (sglM m 8 d) p (d + 1) = q at hv h' c
      rw [hM] at c
      refine MethC.of hv m' h' ?_
      refine conI [] pre1 (fun _ => false) Try.func97 (fun _ h => by cases h) ?_
      refine ⟨[.ro, .ro], .tup [.int .i64 d, .tt], [none, none], (by rw [mach_toRo]; exact .nbr rfl cl), ⟨⟨trivial, trivial, trivial⟩, trivial⟩, by kernel_rfl, ?_⟩
      refine ⟨fun h => (nomatch h), fun _ => ⟨fun _ => ?_, fun h => (nomatch h)⟩⟩
      refine ⟨[.mut, .ro, .ro], .tup [], [some (.pb (GMach.ow ({ nzM m (wr16 (d + 1)) with v := decide (d = 32767) }))), none, none], (by rw [e1]; exact spec_l7NZ m (d + 1) (decide (d = 32767))), trivial, ?_⟩
      exact ⟨[.mut, .ro, .ro], .bool q.isSome, [some (.pb (GMach.ow m')), none, none], (by rw [e1]; exact c), trivial, .refl _, .refl _, trivial⟩
    · have hM := sglM_eq m 9 d (wr16 (d - 1)) (m.c) (decide (d = 32768)) rfl rfl rfl
      obtain ⟨m', h', c⟩ := spec_l7Put (sglM m 9 d) p (d - 1) hM' hp
      replace hv : sglV m 9 p = stoV (sglM m 9 d) p (d - 1) := hv.trans (stoV_wr _ _ _)
      generalize stoV (sglM m 9 d) p (d - 1) = q at hv h' c
      rw [hM] at c
      refine MethC.of hv m' h' ?_
      refine conI [] pre1 (fun _ => false) Try.func97 (fun _ h => by cases h) ?_
      refine ⟨[.ro, .ro], .tup [.int .i64 d, .tt], [none, none], (by rw [mach_toRo]; exact .nbr rfl cl), ⟨⟨trivial, trivial, trivial⟩, trivial⟩, by kernel_rfl, ?_⟩
      refine ⟨fun h => (nomatch h), fun _ => ⟨fun h => (nomatch h), fun _ => ⟨fun _ => ?_, fun h => (nomatch h)⟩⟩⟩
      refine ⟨[.mut, .ro, .ro], .tup [], [some (.pb (GMach.ow ({ nzM m (wr16 (d - 1)) with v := decide (d = 32768) }))), none, none], (by rw [e2]; exact spec_l7NZ m (d - 1) (decide (d = 32768))), trivial, ?_⟩
      exact ⟨[.mut, .ro, .ro], .bool q.isSome, [some (.pb (GMach.ow m')), none, none], (by rw [e2]; exact c), trivial, .refl _, .refl _, trivial⟩
    · have hM := sglM_eq m 10 d (wr16 (-d)) (decide (d ≠ 0)) (decide (d = 32768)) rfl (by show decide (wr16 (-d) ≠ 0) = _; exact decide_eq_decide.2 (by rw [wr16]; omega)) (by show decide (wr16 (-d) = 32768) = _; exact decide_eq_decide.2 (by rw [wr16]; omega))
      obtain ⟨m', h', c⟩ := spec_l7Put (sglM m 10 d) p (-d) hM' hp
      replace hv : sglV m 10 p = stoV (sglM m 10 d) p (-d) := hv.trans (stoV_wr _ _ _)
      generalize stoV (sglM m 10 d) p (-d) = q at hv h' c
      rw [hM] at c
      refine MethC.of hv m' h' ?_
      refine conI [] pre1 (fun _ => false) Try.func97 (fun _ h => by cases h) ?_
      refine ⟨[.ro, .ro], .tup [.int .i64 d, .tt], [none, none], (by rw [mach_toRo]; exact .nbr rfl cl), ⟨⟨trivial, trivial, trivial⟩, trivial⟩, by kernel_rfl, ?_⟩
      refine ⟨fun h => (nomatch h), fun _ => ⟨fun h => (nomatch h), fun _ => ⟨fun h => (nomatch h), fun _ => ⟨fun _ => ?_, fun h => (nomatch h)⟩⟩⟩⟩
      refine ⟨[.mut, .ro, .ro], .tup [], [some (.pb (GMach.ow ({ nzM m (wr16 (-d)) with v := decide (d = 32768) }))), none, none], (by rw [e3]; exact spec_l7NZ m (-d) (decide (d = 32768))), trivial, ?_⟩
      exact ⟨[.mut, .ro, .ro], .bool q.isSome, [some (.pb (GMach.ow m')), none, none], (by rw [e3]; exact c), trivial, .refl _, .refl _, trivial⟩
    · have hM := sglM_eq m 11 d (d) (false) (false) rfl rfl rfl
      refine MethC.ok (m' := sglM m 11 d) hv ?_
      refine conI [] pre1 (fun _ => false) Try.func97 (fun _ h => by cases h) ?_
      refine ⟨[.ro, .ro], .tup [.int .i64 d, .tt], [none, none], (by rw [mach_toRo]; exact .nbr rfl cl), ⟨⟨trivial, trivial, trivial⟩, trivial⟩, by kernel_rfl, ?_⟩
      refine ⟨fun h => (nomatch h), fun _ => ⟨fun h => (nomatch h), fun _ => ⟨fun h => (nomatch h), fun _ => ⟨fun h => (nomatch h), fun _ => ⟨fun _ => ?_, fun h => (nomatch h)⟩⟩⟩⟩⟩
      refine ⟨[.mut, .ro, .ro], .tup [], [some (.pb (GMach.ow ({ nzM m (d) with v := false }))), none, none], spec_nz m false hd, trivial, ?_⟩
      exact ⟨.refl _, .trans (.nb rfl) (.of_eq (pbE hM)), trivial⟩
    · obtain ⟨m', h', c⟩ := spec_l7Shift m 12 d p hm hp hd (by decide)
      replace hv : sglV m 12 p = stoV (sglM m 12 d) p (sglR 12 d) := hv
      generalize stoV (sglM m 12 d) p (sglR 12 d) = q at hv h' c
      refine MethC.of hv m' h' ?_
      refine conI [] pre1 (fun _ => false) Try.func97 (fun _ h => by cases h) ?_
      refine ⟨[.ro, .ro], .tup [.int .i64 d, .tt], [none, none], (by rw [mach_toRo]; exact .nbr rfl cl), ⟨⟨trivial, trivial, trivial⟩, trivial⟩, by kernel_rfl, ?_⟩
      refine ⟨fun h => (nomatch h), fun _ => ⟨fun h => (nomatch h), fun _ => ⟨fun h => (nomatch h), fun _ => ⟨fun h => (nomatch h), fun _ => ⟨fun h => (nomatch h), fun _ => ?_⟩⟩⟩⟩⟩
      exact ⟨[.mut, .ro, .ro, .ro], .bool q.isSome, [some (.pb (GMach.ow m')), none, none, none], c, trivial, .refl _, .refl _, trivial⟩
    · obtain ⟨m', h', c⟩ := spec_l7Shift m 13 d p hm hp hd (by decide)
      replace hv : sglV m 13 p = stoV (sglM m 13 d) p (sglR 13 d) := hv
      generalize stoV (sglM m 13 d) p (sglR 13 d) = q at hv h' c
      refine MethC.of hv m' h' ?_
      refine conI [] pre1 (fun _ => false) Try.func97 (fun _ h => by cases h) ?_
      refine ⟨[.ro, .ro], .tup [.int .i64 d, .tt], [none, none], (by rw [mach_toRo]; exact .nbr rfl cl), ⟨⟨trivial, trivial, trivial⟩, trivial⟩, by kernel_rfl, ?_⟩
      refine ⟨fun h => (nomatch h), fun _ => ⟨fun h => (nomatch h), fun _ => ⟨fun h => (nomatch h), fun _ => ⟨fun h => (nomatch h), fun _ => ⟨fun h => (nomatch h), fun _ => ?_⟩⟩⟩⟩⟩
      exact ⟨[.mut, .ro, .ro, .ro], .bool q.isSome, [some (.pb (GMach.ow m')), none, none, none], c, trivial, .refl _, .refl _, trivial⟩
end Go.Proofs.VI
