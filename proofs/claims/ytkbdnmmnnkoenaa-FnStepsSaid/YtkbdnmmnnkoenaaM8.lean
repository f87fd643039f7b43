/- Contracts of functions, and what they rest on: l07alu. -/
import Derived.Test.YtkbdnmmnnkoenaaM7
set_option linter.unusedVariables false
set_option linter.unusedSimpArgs false
set_option maxRecDepth 10000
set_option maxHeartbeats 4000000
namespace Go.Proofs.VI
open Go
def minus (x : Int) : Bool := decide (32767 < x)
def nzM (m : GMach) (r : Int) : GMach := { m with n := minus r, z := decide (r = 0) }
theorem wr16_keep {x : Int} (h0 : 0 ≤ x) (h1 : x ≤ 65535) : wr16 x = x := by rw [wr16]; omega
theorem RightM.of {m m' : GMach} (h : RightM m) (e : m' = { m with n := m'.n, z := m'.z, v := m'.v, c := m'.c }) : RightM m' := by
  rw [e]
  exact ⟨h.mem, h.r, h.inp, h.out, h.wm, h.wr, h.wi, h.wo, h.st⟩
theorem sign_minus (x : Int) : decide (32768 ≤ wr16 x) = minus (wr16 x) := by
  rw [minus]
  exact decide_eq_decide.2 ⟨fun h => by omega, fun h => by omega⟩
theorem ofInt_nat {a : Int} (h0 : 0 ≤ a) (h1 : a ≤ 65535) : (BitVec.ofInt 64 a).toNat = a.toNat := by
  rw [BitVec.toNat_ofInt]
  omega
theorem or_in {a b : Int} (ha : 0 ≤ a ∧ a ≤ 65535) (hb : 0 ≤ b ∧ b ≤ 65535) : 0 ≤ bitsI .or .i64 a b ∧ bitsI .or .i64 a b ≤ 65535 := by
  have h : (BitVec.ofInt 64 a ||| BitVec.ofInt 64 b).toNat < 65536 := by
    rw [BitVec.toNat_or, ofInt_nat ha.1 ha.2, ofInt_nat hb.1 hb.2]
    exact Nat.or_lt_two_pow (n := 16) (by omega) (by omega)
  have e : bitsI .or .i64 a b = IntKind.wrap .i64 ((BitVec.ofInt 64 a ||| BitVec.ofInt 64 b).toNat : Int) := rfl
  rw [e, w64 (by omega) (by omega)]
  omega
theorem andNot_in {a b : Int} (ha : 0 ≤ a ∧ a ≤ 65535) : 0 ≤ bitsI .andNot .i64 a b ∧ bitsI .andNot .i64 a b ≤ 65535 := by
  have h : (BitVec.ofInt 64 a &&& ~~~ BitVec.ofInt 64 b).toNat < 65536 := by
    rw [BitVec.toNat_and, ofInt_nat ha.1 ha.2]
    have := Nat.and_le_left (n := a.toNat) (m := (~~~ BitVec.ofInt 64 b).toNat)
    omega
  have e : bitsI .andNot .i64 a b = IntKind.wrap .i64 ((BitVec.ofInt 64 a &&& ~~~ BitVec.ofInt 64 b).toNat : Int) := rfl
  rw [e, w64 (by omega) (by omega)]
  omega
def dblR (op x d : Int) : Int := if op = 2 then wr16 (x - d) else if op = 3 then bitsI .andNot .i64 d x else if op = 4 then bitsI .or .i64 d x else if op = 5 then wr16 (x + d) else wr16 (d - x)
def dblO (op x d : Int) : Bool := if op = 2 then (minus x != minus d) && (minus (dblR op x d) == minus d) else if op = 3 then false else if op = 4 then false else if op = 5 then (minus x == minus d) && (minus (dblR op x d) != minus x) else (minus x != minus d) && (minus (dblR op x d) == minus x)
def dblC (c : Bool) (op x d : Int) : Bool := if op = 2 then decide (x < d) else if op = 3 then c else if op = 4 then c else if op = 5 then decide (65535 < x + d) else decide (d < x)
def dblM (m : GMach) (op x d : Int) : GMach := { m with n := minus (dblR op x d), z := decide (dblR op x d = 0), v := dblO op x d, c := dblC m.c op x d }
def dblV (m : GMach) (op x : Int) (p : GPlace) : Option GMach :=
  if op = 1 then stoV { nzM m x with v := false } p x else
  match ldV m p with
  | none => none
  | some d => if op = 2 then some (dblM m op x d) else stoV (dblM m op x d) p (dblR op x d)
theorem dblM_eq (m : GMach) (op x d r : Int) (C V : Bool) (hr : dblR op x d = r) (hC : dblC m.c op x d = C) (hO : dblO op x d = V) : dblM m op x d = { m with n := minus r, z := decide (r = 0), v := V, c := C } := by
  subst hr hC hO; rfl
theorem pbE {m m' : GMach} (h : m' = m) : AV.pb (GMach.ow m) = .pb (GMach.ow m') := by rw [h]
theorem dblR_in {op x d : Int} (hx : 0 ≤ x ∧ x ≤ 65535) (hd : 0 ≤ d ∧ d ≤ 65535) : 0 ≤ dblR op x d ∧ dblR op x d ≤ 65535 := by
  unfold dblR
  split
  · exact wr16_in _
  split
  · exact andNot_in hd
  split
  · exact or_in hd hx
  split <;> exact wr16_in _
theorem MethC.ok {f : FuncId} {m m' : GMach} {args : List AV} {r : Option GMach} (h : r = some m') (c : Con f (.pb (GMach.ow m) :: args) (.bool true) (some (.pb (GMach.ow m')) :: args.map fun _ => none)) : MethC f m args r :=
  ⟨m', fun x hx => (by rw [h] at hx; injection hx with hx; exact hx.symm), by rw [h]; exact c⟩
theorem MethC.bad {f : FuncId} {m : GMach} {args : List AV} {r : Option GMach} (h : r = none) (m' : GMach) (c : Con f (.pb (GMach.ow m) :: args) (.bool false) (some (.pb (GMach.ow m')) :: args.map fun _ => none)) : MethC f m args r :=
  ⟨m', fun x hx => (by rw [h] at hx; cases hx), by rw [h]; exact c⟩
theorem MethC.of {f : FuncId} {m : GMach} {args : List AV} {r r2 : Option GMach} (h : r = r2) (m' : GMach) (hm : ∀ x, r2 = some x → x = m') (c : Con f (.pb (GMach.ow m) :: args) (.bool r2.isSome) (some (.pb (GMach.ow m')) :: args.map fun _ => none)) : MethC f m args r :=
  ⟨m', by rw [h]; exact hm, by rw [h]; exact c⟩
theorem impl_isMinus (x : Int) : Con 89 [.int .i64 x] (.bool (minus x)) [none] := by
  refine con Try.func89 ?_
  exact ⟨.refl _, trivial⟩
theorem spec_l7Sign (x : Int) : Con 111 [.int .i64 x] (.bool (minus (wr16 x))) [none] := by
  refine con Try.func111 ?_
  exact ⟨[.ro], .int .i64 (wr16 x), [none], spec_Wrap x, trivial, .of_eq (congrArg AV.bool (sign_minus x)), trivial⟩
theorem impl_flagsOf (m : GMach) (x : Int) : Con 87 [.pb (GMach.ow m), .int .i64 x] (.tup []) [some (.pb (GMach.ow (nzM m x))), none] := by
  refine con Try.func87 ?_
  exact ⟨[.ro], .bool (minus x), [none], impl_isMinus x, trivial, .refl _, .refl _, trivial⟩
theorem spec_l7NZ (m : GMach) (x : Int) (v : Bool) : Con 109 [.pb (GMach.ow m), .int .i64 x, .bool v] (.tup []) [some (.pb (GMach.ow { nzM m (wr16 x) with v := v })), none, none] := by
  refine con Try.func109 ?_
  exact ⟨[.ro], .bool (minus (wr16 x)), [none], spec_l7Sign x, trivial, [.ro], .int .i64 (wr16 x), [none], spec_Wrap x, trivial, .refl _, .refl _, trivial⟩
theorem impl_double (m : GMach) (op x : Int) (p : GPlace) (hm : RightM m) (hp : PlaceR p) (hx : 0 ≤ x ∧ x ≤ 65535) (ho : 1 ≤ op ∧ op ≤ 6) : MethC 69 m [.int .i64 op, .int .i64 x, .agg (GPlace.ro p)] (dblV m op x p) := by
  have hcase : op = 1 ∨ op = 2 ∨ op = 3 ∨ op = 4 ∨ op = 5 ∨ op = 6 := by omega
  by_cases h1 : op = 1
  · subst h1
    obtain ⟨m', h', c⟩ := impl_put { nzM m x with v := false } p x (hm.of rfl) hp
    refine MethC.of rfl m' h' ?_
    refine con Try.func69 ?_
    refine ⟨fun _ => ?_, fun h => (nomatch h)⟩
    refine ⟨[.mut, .ro], .tup [], [some (.pb (GMach.ow (nzM m x))), none], impl_flagsOf m x, trivial, ?_⟩
    exact ⟨[.mut, .ro, .ro], .bool _, [some (.pb (GMach.ow m')), none, none], c, trivial, .refl _, .refl _, trivial⟩
  have cl := impl_Load m p hm hp
  cases hl : ldV m p with
  | none =>
    rw [hl] at cl
    refine MethC.bad (by unfold dblV; rw [if_neg h1, hl]) m ?_
    refine conI [] (fun i => bif Nat.beq i 5 then some (0, 32) else none) (fun _ => false) Try.func69 (fun _ h => by cases h) ?_
    refine ⟨fun h => absurd (by simpa using h) h1, fun _ => ?_⟩
    refine ⟨[.ro, .ro], .tup [.int .i64 0, .ff], [none, none], (by rw [mach_toRo]; exact .nbr rfl cl), ⟨⟨trivial, trivial, trivial⟩, trivial⟩, by kernel_rfl, ?_⟩
    exact ⟨.refl _, .refl _, trivial⟩
  | some d =>
    rw [hl] at cl
    have hd := ldV_right hm hl
    have hR := dblR_in (op := op) hx hd
    have hM' : RightM (dblM m op x d) := hm.of rfl
    have e1 : IntKind.wrap .i64 (x - d) = x - d := w64 (by omega) (by omega)
    have e2 : IntKind.wrap .i64 (x + d) = x + d := w64 (by omega) (by omega)
    have e3 : IntKind.wrap .i64 (d - x) = d - x := w64 (by omega) (by omega)
    have hv : dblV m op x p = if op = 2 then some (dblM m op x d) else stoV (dblM m op x d) p (dblR op x d) := by unfold dblV; rw [if_neg h1, hl]
    rcases hcase with rfl | rfl | rfl | rfl | rfl | rfl
    · cases h1 rfl
    · refine MethC.ok (m' := dblM m 2 x d) hv ?_
      refine conI [] (fun i => bif Nat.beq i 5 then some (0, 32) else none) (fun _ => false) Try.func69 (fun _ h => by cases h) ?_
      refine ⟨fun h => (nomatch h), fun _ => ?_⟩
      refine ⟨[.ro, .ro], .tup [.int .i64 d, .tt], [none, none], (by rw [mach_toRo]; exact .nbr rfl cl), ⟨⟨trivial, trivial, trivial⟩, trivial⟩, by kernel_rfl, ?_⟩
      refine ⟨fun _ => ?_, fun h => (nomatch h)⟩
      refine ⟨[.ro], .int .i64 (wr16 (x - d)), [none], (by rw [e1]; exact impl_Wrap _), trivial, ?_⟩
      refine ⟨[.ro], .bool (minus x), [none], impl_isMinus x, trivial, [.ro], .bool (minus d), [none], impl_isMinus d, trivial, fun h => ⟨[.ro], .bool (minus (wr16 (x - d))), [none], impl_isMinus _, trivial, [.ro], .bool (minus d), [none], impl_isMinus _, trivial, ?_⟩, fun h => ?_⟩
      · have hM := dblM_eq m 2 x d (wr16 (x - d)) (decide (x < d)) (minus (wr16 (x - d)) == minus d) rfl rfl (by show ((minus x != minus d) && (minus (wr16 (x - d)) == minus d)) = _; rw [h]; rfl)
        refine ⟨[.mut, .ro], .tup [], [some (.pb (GMach.ow (nzM { m with v := minus (wr16 (x - d)) == minus d, c := decide (x < d) } (wr16 (x - d))))), none], impl_flagsOf { m with v := minus (wr16 (x - d)) == minus d, c := decide (x < d) } (wr16 (x - d)), trivial, ?_⟩
        exact ⟨fun h => (nomatch h), fun _ => ⟨.refl _, .of_eq (pbE hM), trivial⟩⟩
      · have hM := dblM_eq m 2 x d (wr16 (x - d)) (decide (x < d)) (false) rfl rfl (by show ((minus x != minus d) && (minus (wr16 (x - d)) == minus d)) = _; rw [h]; rfl)
        refine ⟨[.mut, .ro], .tup [], [some (.pb (GMach.ow (nzM { m with v := false, c := decide (x < d) } (wr16 (x - d))))), none], impl_flagsOf { m with v := false, c := decide (x < d) } (wr16 (x - d)), trivial, ?_⟩
        exact ⟨fun h => (nomatch h), fun _ => ⟨.refl _, .of_eq (pbE hM), trivial⟩⟩
    · obtain ⟨m', h', c⟩ := impl_put (dblM m 3 x d) p (dblR 3 x d) hM' hp
      replace hv : dblV m 3 x p = stoV (dblM m 3 x d) p (dblR 3 x d) := hv
      generalize stoV (dblM m 3 x d) p (dblR 3 x d) = q at hv h' c
      refine MethC.of hv m' h' ?_
      refine conI [] (fun i => bif Nat.beq i 5 then some (0, 32) else none) (fun _ => false) Try.func69 (fun _ h => by cases h) ?_
      refine ⟨fun h => (nomatch h), fun _ => ?_⟩
      refine ⟨[.ro, .ro], .tup [.int .i64 d, .tt], [none, none], (by rw [mach_toRo]; exact .nbr rfl cl), ⟨⟨trivial, trivial, trivial⟩, trivial⟩, by kernel_rfl, ?_⟩
      refine ⟨fun h => (nomatch h), fun _ => ⟨fun _ => ?_, fun h => (nomatch h)⟩⟩
      have hM := dblM_eq m 3 x d (bitsI .andNot .i64 d x) (m.c) (false) rfl rfl rfl
      refine ⟨[.mut, .ro], .tup [], [some (.pb (GMach.ow (nzM { m with v := false, c := m.c } (bitsI .andNot .i64 d x)))), none], impl_flagsOf { m with v := false, c := m.c } (bitsI .andNot .i64 d x), trivial, ?_⟩
      rw [hM] at c
      exact ⟨fun _ => ⟨[.mut, .ro, .ro], .bool q.isSome, [some (.pb (GMach.ow m')), none, none], c, trivial, .refl _, .refl _, trivial⟩, fun h => (nomatch h)⟩
    · obtain ⟨m', h', c⟩ := impl_put (dblM m 4 x d) p (dblR 4 x d) hM' hp
      replace hv : dblV m 4 x p = stoV (dblM m 4 x d) p (dblR 4 x d) := hv
      generalize stoV (dblM m 4 x d) p (dblR 4 x d) = q at hv h' c
      refine MethC.of hv m' h' ?_
      refine conI [] (fun i => bif Nat.beq i 5 then some (0, 32) else none) (fun _ => false) Try.func69 (fun _ h => by cases h) ?_
      refine ⟨fun h => (nomatch h), fun _ => ?_⟩
      refine ⟨[.ro, .ro], .tup [.int .i64 d, .tt], [none, none], (by rw [mach_toRo]; exact .nbr rfl cl), ⟨⟨trivial, trivial, trivial⟩, trivial⟩, by kernel_rfl, ?_⟩
      refine ⟨fun h => (nomatch h), fun _ => ⟨fun h => (nomatch h), fun _ => ⟨fun _ => ?_, fun h => (nomatch h)⟩⟩⟩
      have hM := dblM_eq m 4 x d (bitsI .or .i64 d x) (m.c) (false) rfl rfl rfl
      refine ⟨[.mut, .ro], .tup [], [some (.pb (GMach.ow (nzM { m with v := false, c := m.c } (bitsI .or .i64 d x)))), none], impl_flagsOf { m with v := false, c := m.c } (bitsI .or .i64 d x), trivial, ?_⟩
      rw [hM] at c
      exact ⟨fun _ => ⟨[.mut, .ro, .ro], .bool q.isSome, [some (.pb (GMach.ow m')), none, none], c, trivial, .refl _, .refl _, trivial⟩, fun h => (nomatch h)⟩
    · obtain ⟨m', h', c⟩ := impl_put (dblM m 5 x d) p (dblR 5 x d) hM' hp
      replace hv : dblV m 5 x p = stoV (dblM m 5 x d) p (dblR 5 x d) := hv
      generalize stoV (dblM m 5 x d) p (dblR 5 x d) = q at hv h' c
      refine MethC.of hv m' h' ?_
      refine conI [] (fun i => bif Nat.beq i 5 then some (0, 32) else none) (fun _ => false) Try.func69 (fun _ h => by cases h) ?_
      refine ⟨fun h => (nomatch h), fun _ => ?_⟩
      refine ⟨[.ro, .ro], .tup [.int .i64 d, .tt], [none, none], (by rw [mach_toRo]; exact .nbr rfl cl), ⟨⟨trivial, trivial, trivial⟩, trivial⟩, by kernel_rfl, ?_⟩
      refine ⟨fun h => (nomatch h), fun _ => ⟨fun h => (nomatch h), fun _ => ⟨fun h => (nomatch h), fun _ => ⟨fun _ => ?_, fun h => (nomatch h)⟩⟩⟩⟩
      refine ⟨[.ro], .int .i64 (wr16 (x + d)), [none], (by rw [e2]; exact impl_Wrap _), trivial, ?_⟩
      refine ⟨[.ro], .bool (minus x), [none], impl_isMinus x, trivial, [.ro], .bool (minus d), [none], impl_isMinus d, trivial, fun h => ⟨[.ro], .bool (minus (wr16 (x + d))), [none], impl_isMinus _, trivial, [.ro], .bool (minus x), [none], impl_isMinus _, trivial, ?_⟩, fun h => ?_⟩
      · have hM := dblM_eq m 5 x d (wr16 (x + d)) (decide (65535 < IntKind.wrap .i64 (x + d))) (minus (wr16 (x + d)) != minus x) rfl (by show decide (65535 < x + d) = _; rw [e2]) (by show ((minus x == minus d) && (minus (wr16 (x + d)) != minus x)) = _; rw [h]; rfl)
        refine ⟨[.mut, .ro], .tup [], [some (.pb (GMach.ow (nzM { m with v := minus (wr16 (x + d)) != minus x, c := decide (65535 < IntKind.wrap .i64 (x + d)) } (wr16 (x + d))))), none], impl_flagsOf { m with v := minus (wr16 (x + d)) != minus x, c := decide (65535 < IntKind.wrap .i64 (x + d)) } (wr16 (x + d)), trivial, ?_⟩
        rw [hM] at c
        exact ⟨fun _ => ⟨[.mut, .ro, .ro], .bool q.isSome, [some (.pb (GMach.ow m')), none, none], c, trivial, .refl _, .refl _, trivial⟩, fun h => (nomatch h)⟩
      · have hM := dblM_eq m 5 x d (wr16 (x + d)) (decide (65535 < IntKind.wrap .i64 (x + d))) (false) rfl (by show decide (65535 < x + d) = _; rw [e2]) (by show ((minus x == minus d) && (minus (wr16 (x + d)) != minus x)) = _; rw [h]; rfl)
        refine ⟨[.mut, .ro], .tup [], [some (.pb (GMach.ow (nzM { m with v := false, c := decide (65535 < IntKind.wrap .i64 (x + d)) } (wr16 (x + d))))), none], impl_flagsOf { m with v := false, c := decide (65535 < IntKind.wrap .i64 (x + d)) } (wr16 (x + d)), trivial, ?_⟩
        rw [hM] at c
        exact ⟨fun _ => ⟨[.mut, .ro, .ro], .bool q.isSome, [some (.pb (GMach.ow m')), none, none], c, trivial, .refl _, .refl _, trivial⟩, fun h => (nomatch h)⟩
    · obtain ⟨m', h', c⟩ := impl_put (dblM m 6 x d) p (dblR 6 x d) hM' hp
      replace hv : dblV m 6 x p = stoV (dblM m 6 x d) p (dblR 6 x d) := hv
      generalize stoV (dblM m 6 x d) p (dblR 6 x d) = q at hv h' c
      refine MethC.of hv m' h' ?_
      refine conI [] (fun i => bif Nat.beq i 5 then some (0, 32) else none) (fun _ => false) Try.func69 (fun _ h => by cases h) ?_
      refine ⟨fun h => (nomatch h), fun _ => ?_⟩
      refine ⟨[.ro, .ro], .tup [.int .i64 d, .tt], [none, none], (by rw [mach_toRo]; exact .nbr rfl cl), ⟨⟨trivial, trivial, trivial⟩, trivial⟩, by kernel_rfl, ?_⟩
      refine ⟨fun h => (nomatch h), fun _ => ⟨fun h => (nomatch h), fun _ => ⟨fun h => (nomatch h), fun _ => ⟨fun h => (nomatch h), fun _ => ⟨fun _ => ?_, fun h => (nomatch h)⟩⟩⟩⟩⟩
      refine ⟨[.ro], .int .i64 (wr16 (d - x)), [none], (by rw [e3]; exact impl_Wrap _), trivial, ?_⟩
      refine ⟨[.ro], .bool (minus x), [none], impl_isMinus x, trivial, [.ro], .bool (minus d), [none], impl_isMinus d, trivial, fun h => ⟨[.ro], .bool (minus (wr16 (d - x))), [none], impl_isMinus _, trivial, [.ro], .bool (minus x), [none], impl_isMinus _, trivial, ?_⟩, fun h => ?_⟩
      · have hM := dblM_eq m 6 x d (wr16 (d - x)) (decide (d < x)) (minus (wr16 (d - x)) == minus x) rfl rfl (by show ((minus x != minus d) && (minus (wr16 (d - x)) == minus x)) = _; rw [h]; rfl)
        refine ⟨[.mut, .ro], .tup [], [some (.pb (GMach.ow (nzM { m with v := minus (wr16 (d - x)) == minus x, c := decide (d < x) } (wr16 (d - x))))), none], impl_flagsOf { m with v := minus (wr16 (d - x)) == minus x, c := decide (d < x) } (wr16 (d - x)), trivial, ?_⟩
        rw [hM] at c
        exact ⟨fun _ => ⟨[.mut, .ro, .ro], .bool q.isSome, [some (.pb (GMach.ow m')), none, none], c, trivial, .refl _, .refl _, trivial⟩, fun h => (nomatch h)⟩
      · have hM := dblM_eq m 6 x d (wr16 (d - x)) (decide (d < x)) (false) rfl rfl (by show ((minus x != minus d) && (minus (wr16 (d - x)) == minus x)) = _; rw [h]; rfl)
        refine ⟨[.mut, .ro], .tup [], [some (.pb (GMach.ow (nzM { m with v := false, c := decide (d < x) } (wr16 (d - x))))), none], impl_flagsOf { m with v := false, c := decide (d < x) } (wr16 (d - x)), trivial, ?_⟩
        rw [hM] at c
        exact ⟨fun _ => ⟨[.mut, .ro, .ro], .bool q.isSome, [some (.pb (GMach.ow m')), none, none], c, trivial, .refl _, .refl _, trivial⟩, fun h => (nomatch h)⟩
theorem spec_sign {x : Int} (h : 0 ≤ x ∧ x ≤ 65535) : Con 111 [.int .i64 x] (.bool (minus x)) [none] := by
  have c := spec_l7Sign x
  rw [wr16_keep h.1 h.2] at c
  exact c
theorem spec_nz (m : GMach) {x : Int} (v : Bool) (h : 0 ≤ x ∧ x ≤ 65535) : Con 109 [.pb (GMach.ow m), .int .i64 x, .bool v] (.tup []) [some (.pb (GMach.ow { nzM m x with v := v })), none, none] := by
  have c := spec_l7NZ m x v
  rw [wr16_keep h.1 h.2] at c
  exact c
theorem spec_l7Two (m : GMach) (op x : Int) (p : GPlace) (hm : RightM m) (hp : PlaceR p) (hx : 0 ≤ x ∧ x ≤ 65535) (ho : 1 ≤ op ∧ op ≤ 6) : MethC 95 m [.int .i64 op, .int .i64 x, .agg (GPlace.ro p)] (dblV m op x p) := by
  have hcase : op = 1 ∨ op = 2 ∨ op = 3 ∨ op = 4 ∨ op = 5 ∨ op = 6 := by omega
  by_cases h1 : op = 1
  · subst h1
    obtain ⟨m', h', c⟩ := spec_l7Put { nzM m x with v := false } p x (hm.of rfl) hp
    refine MethC.of rfl m' h' ?_
    refine con Try.func95 ?_
    refine ⟨fun _ => ?_, fun h => (nomatch h)⟩
    refine ⟨[.mut, .ro, .ro], .tup [], [some (.pb (GMach.ow { nzM m x with v := false })), none, none], spec_nz m false hx, trivial, ?_⟩
    exact ⟨[.mut, .ro, .ro], .bool _, [some (.pb (GMach.ow m')), none, none], c, trivial, .refl _, .refl _, trivial⟩
  have cl := spec_Load m p hm hp
  cases hl : ldV m p with
  | none =>
    rw [hl] at cl
    refine MethC.bad (by unfold dblV; rw [if_neg h1, hl]) m ?_
    refine conI [] (fun i => bif Nat.beq i 4 then some (0, 32) else none) (fun _ => false) Try.func95 (fun _ h => by cases h) ?_
    refine ⟨fun h => absurd (by simpa using h) h1, fun _ => ?_⟩
    refine ⟨[.ro, .ro], .tup [.int .i64 0, .ff], [none, none], (by rw [mach_toRo]; exact .nbr rfl cl), ⟨⟨trivial, trivial, trivial⟩, trivial⟩, by kernel_rfl, ?_⟩
    exact ⟨.refl _, .refl _, trivial⟩
  | some d =>
    rw [hl] at cl
    have hd := ldV_right hm hl
    have hR := fun op => dblR_in (op := op) hx hd
    have hM' : RightM (dblM m op x d) := hm.of rfl
    have e1 : IntKind.wrap .i64 (x - d) = x - d := w64 (by omega) (by omega)
    have e2 : IntKind.wrap .i64 (d + x) = x + d := by rw [w64 (by omega) (by omega)]; omega
    have e3 : IntKind.wrap .i64 (d - x) = d - x := w64 (by omega) (by omega)
    have hv : dblV m op x p = if op = 2 then some (dblM m op x d) else stoV (dblM m op x d) p (dblR op x d) := by unfold dblV; rw [if_neg h1, hl]
    rcases hcase with rfl | rfl | rfl | rfl | rfl | rfl
    · cases h1 rfl
    · have hr : 0 ≤ wr16 (x - d) ∧ wr16 (x - d) ≤ 65535 := hR 2
      refine MethC.ok (m' := dblM m 2 x d) hv ?_
      refine conI [] (fun i => bif Nat.beq i 4 then some (0, 32) else none) (fun _ => false) Try.func95 (fun _ h => by cases h) ?_
      refine ⟨fun h => (nomatch h), fun _ => ?_⟩
      refine ⟨[.ro, .ro], .tup [.int .i64 d, .tt], [none, none], (by rw [mach_toRo]; exact .nbr rfl cl), ⟨⟨trivial, trivial, trivial⟩, trivial⟩, by kernel_rfl, ?_⟩
      refine ⟨fun _ => ?_, fun h => (nomatch h)⟩
      refine ⟨[.ro], .int .i64 (wr16 (x - d)), [none], (by rw [e1]; exact spec_Wrap _), trivial, ?_⟩
      refine ⟨[.ro], .bool (minus x), [none], spec_sign hx, trivial, [.ro], .bool (minus d), [none], spec_sign hd, trivial, fun h => ⟨[.ro], .bool (minus (wr16 (x - d))), [none], spec_sign hr, trivial, [.ro], .bool (minus d), [none], spec_sign hd, trivial, ?_⟩, fun h => ?_⟩
      · have hM := dblM_eq m 2 x d (wr16 (x - d)) (decide (x < d)) (minus (wr16 (x - d)) == minus d) rfl rfl (by show ((minus x != minus d) && (minus (wr16 (x - d)) == minus d)) = _; rw [h]; rfl)
        exact ⟨[.mut, .ro, .ro], .tup [], [some (.pb (GMach.ow { nzM m (wr16 (x - d)) with v := minus (wr16 (x - d)) == minus d })), none, none], spec_nz m (minus (wr16 (x - d)) == minus d) hr, trivial, .refl _, .of_eq (pbE hM), trivial⟩
      · have hM := dblM_eq m 2 x d (wr16 (x - d)) (decide (x < d)) (false) rfl rfl (by show ((minus x != minus d) && (minus (wr16 (x - d)) == minus d)) = _; rw [h]; rfl)
        exact ⟨[.mut, .ro, .ro], .tup [], [some (.pb (GMach.ow { nzM m (wr16 (x - d)) with v := false })), none, none], spec_nz m (false) hr, trivial, .refl _, .of_eq (pbE hM), trivial⟩
    · have hr : 0 ≤ bitsI .andNot .i64 d x ∧ bitsI .andNot .i64 d x ≤ 65535 := hR 3
      obtain ⟨m', h', c⟩ := spec_l7Put (dblM m 3 x d) p (dblR 3 x d) hM' hp
      replace hv : dblV m 3 x p = stoV (dblM m 3 x d) p (dblR 3 x d) := hv
      generalize stoV (dblM m 3 x d) p (dblR 3 x d) = q at hv h' c
      refine MethC.of hv m' h' ?_
      refine conI [] (fun i => bif Nat.beq i 4 then some (0, 32) else none) (fun _ => false) Try.func95 (fun _ h => by cases h) ?_
      refine ⟨fun h => (nomatch h), fun _ => ?_⟩
      refine ⟨[.ro, .ro], .tup [.int .i64 d, .tt], [none, none], (by rw [mach_toRo]; exact .nbr rfl cl), ⟨⟨trivial, trivial, trivial⟩, trivial⟩, by kernel_rfl, ?_⟩
      refine ⟨fun h => (nomatch h), fun _ => ⟨fun _ => ?_, fun h => (nomatch h)⟩⟩
      have hM := dblM_eq m 3 x d (bitsI .andNot .i64 d x) (m.c) (false) rfl rfl rfl
      rw [hM] at c
      exact ⟨[.mut, .ro, .ro], .tup [], [some (.pb (GMach.ow { nzM m (bitsI .andNot .i64 d x) with v := false })), none, none], spec_nz m (false) hr, trivial, [.mut, .ro, .ro], .bool q.isSome, [some (.pb (GMach.ow m')), none, none], c, trivial, .refl _, .refl _, trivial⟩
    · have hr : 0 ≤ bitsI .or .i64 d x ∧ bitsI .or .i64 d x ≤ 65535 := hR 4
      obtain ⟨m', h', c⟩ := spec_l7Put (dblM m 4 x d) p (dblR 4 x d) hM' hp
      replace hv : dblV m 4 x p = stoV (dblM m 4 x d) p (dblR 4 x d) := hv
      generalize stoV (dblM m 4 x d) p (dblR 4 x d) = q at hv h' c
      refine MethC.of hv m' h' ?_
      refine conI [] (fun i => bif Nat.beq i 4 then some (0, 32) else none) (fun _ => false) Try.func95 (fun _ h => by cases h) ?_
      refine ⟨fun h => (nomatch h), fun _ => ?_⟩
      refine ⟨[.ro, .ro], .tup [.int .i64 d, .tt], [none, none], (by rw [mach_toRo]; exact .nbr rfl cl), ⟨⟨trivial, trivial, trivial⟩, trivial⟩, by kernel_rfl, ?_⟩
      refine ⟨fun h => (nomatch h), fun _ => ⟨fun h => (nomatch h), fun _ => ⟨fun _ => ?_, fun h => (nomatch h)⟩⟩⟩
      have hM := dblM_eq m 4 x d (bitsI .or .i64 d x) (m.c) (false) rfl rfl rfl
      rw [hM] at c
      exact ⟨[.mut, .ro, .ro], .tup [], [some (.pb (GMach.ow { nzM m (bitsI .or .i64 d x) with v := false })), none, none], spec_nz m (false) hr, trivial, [.mut, .ro, .ro], .bool q.isSome, [some (.pb (GMach.ow m')), none, none], c, trivial, .refl _, .refl _, trivial⟩
    · have hr : 0 ≤ wr16 (x + d) ∧ wr16 (x + d) ≤ 65535 := hR 5
      obtain ⟨m', h', c⟩ := spec_l7Put (dblM m 5 x d) p (dblR 5 x d) hM' hp
      replace hv : dblV m 5 x p = stoV (dblM m 5 x d) p (dblR 5 x d) := hv
      generalize stoV (dblM m 5 x d) p (dblR 5 x d) = q at hv h' c
      refine MethC.of hv m' h' ?_
      refine conI [] (fun i => bif Nat.beq i 4 then some (0, 32) else none) (fun _ => false) Try.func95 (fun _ h => by cases h) ?_
      refine ⟨fun h => (nomatch h), fun _ => ?_⟩
      refine ⟨[.ro, .ro], .tup [.int .i64 d, .tt], [none, none], (by rw [mach_toRo]; exact .nbr rfl cl), ⟨⟨trivial, trivial, trivial⟩, trivial⟩, by kernel_rfl, ?_⟩
      refine ⟨fun h => (nomatch h), fun _ => ⟨fun h => (nomatch h), fun _ => ⟨fun h => (nomatch h), fun _ => ⟨fun _ => ?_, fun h => (nomatch h)⟩⟩⟩⟩
      refine ⟨[.ro], .int .i64 (wr16 (x + d)), [none], (by rw [e2]; exact spec_Wrap _), trivial, ?_⟩
      refine ⟨[.ro], .bool (minus x), [none], spec_sign hx, trivial, [.ro], .bool (minus d), [none], spec_sign hd, trivial, fun h => ⟨[.ro], .bool (minus (wr16 (x + d))), [none], spec_sign hr, trivial, [.ro], .bool (minus d), [none], spec_sign hd, trivial, ?_⟩, fun h => ?_⟩
      · have hM := dblM_eq m 5 x d (wr16 (x + d)) (decide (65535 < IntKind.wrap .i64 (d + x))) (minus (wr16 (x + d)) != minus d) rfl (by show decide (65535 < x + d) = _; rw [e2]) (by show ((minus x == minus d) && (minus (wr16 (x + d)) != minus x)) = _; rw [h, eq_of_beq h]; rfl)
        rw [hM] at c
        exact ⟨[.mut, .ro, .ro], .tup [], [some (.pb (GMach.ow { nzM m (wr16 (x + d)) with v := minus (wr16 (x + d)) != minus d })), none, none], spec_nz m (minus (wr16 (x + d)) != minus d) hr, trivial, [.mut, .ro, .ro], .bool q.isSome, [some (.pb (GMach.ow m')), none, none], c, trivial, .refl _, .refl _, trivial⟩
      · have hM := dblM_eq m 5 x d (wr16 (x + d)) (decide (65535 < IntKind.wrap .i64 (d + x))) (false) rfl (by show decide (65535 < x + d) = _; rw [e2]) (by show ((minus x == minus d) && (minus (wr16 (x + d)) != minus x)) = _; rw [h]; rfl)
        rw [hM] at c
        exact ⟨[.mut, .ro, .ro], .tup [], [some (.pb (GMach.ow { nzM m (wr16 (x + d)) with v := false })), none, none], spec_nz m (false) hr, trivial, [.mut, .ro, .ro], .bool q.isSome, [some (.pb (GMach.ow m')), none, none], c, trivial, .refl _, .refl _, trivial⟩
    · have hr : 0 ≤ wr16 (d - x) ∧ wr16 (d - x) ≤ 65535 := hR 6
      obtain ⟨m', h', c⟩ := spec_l7Put (dblM m 6 x d) p (dblR 6 x d) hM' hp
      replace hv : dblV m 6 x p = stoV (dblM m 6 x d) p (dblR 6 x d) := hv
      generalize stoV (dblM m 6 x d) p (dblR 6 x d) = q at hv h' c
      refine MethC.of hv m' h' ?_
      refine conI [] (fun i => bif Nat.beq i 4 then some (0, 32) else none) (fun _ => false) Try.func95 (fun _ h => by cases h) ?_
      refine ⟨fun h => (nomatch h), fun _ => ?_⟩
      refine ⟨[.ro, .ro], .tup [.int .i64 d, .tt], [none, none], (by rw [mach_toRo]; exact .nbr rfl cl), ⟨⟨trivial, trivial, trivial⟩, trivial⟩, by kernel_rfl, ?_⟩
      refine ⟨fun h => (nomatch h), fun _ => ⟨fun h => (nomatch h), fun _ => ⟨fun h => (nomatch h), fun _ => ⟨fun h => (nomatch h), fun _ => ?_⟩⟩⟩⟩
      refine ⟨[.ro], .int .i64 (wr16 (d - x)), [none], (by rw [e3]; exact spec_Wrap _), trivial, ?_⟩
      refine ⟨[.ro], .bool (minus x), [none], spec_sign hx, trivial, [.ro], .bool (minus d), [none], spec_sign hd, trivial, fun h => ⟨[.ro], .bool (minus (wr16 (d - x))), [none], spec_sign hr, trivial, [.ro], .bool (minus x), [none], spec_sign hx, trivial, ?_⟩, fun h => ?_⟩
      · have hM := dblM_eq m 6 x d (wr16 (d - x)) (decide (d < x)) (minus (wr16 (d - x)) == minus x) rfl rfl (by show ((minus x != minus d) && (minus (wr16 (d - x)) == minus x)) = _; rw [h]; rfl)
        rw [hM] at c
        exact ⟨[.mut, .ro, .ro], .tup [], [some (.pb (GMach.ow { nzM m (wr16 (d - x)) with v := minus (wr16 (d - x)) == minus x })), none, none], spec_nz m (minus (wr16 (d - x)) == minus x) hr, trivial, [.mut, .ro, .ro], .bool q.isSome, [some (.pb (GMach.ow m')), none, none], c, trivial, .refl _, .refl _, trivial⟩
      · have hM := dblM_eq m 6 x d (wr16 (d - x)) (decide (d < x)) (false) rfl rfl (by show ((minus x != minus d) && (minus (wr16 (d - x)) == minus x)) = _; rw [h]; rfl)
        rw [hM] at c
        exact ⟨[.mut, .ro, .ro], .tup [], [some (.pb (GMach.ow { nzM m (wr16 (d - x)) with v := false })), none, none], spec_nz m (false) hr, trivial, [.mut, .ro, .ro], .bool q.isSome, [some (.pb (GMach.ow m')), none, none], c, trivial, .refl _, .refl _, trivial⟩
end Go.Proofs.VI
