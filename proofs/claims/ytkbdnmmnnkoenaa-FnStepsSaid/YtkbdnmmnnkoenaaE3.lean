/- Contracts of functions, and what they rest on: l08law. -/
import Derived.Test.YtkbdnmmnnkoenaaM17
import Derived.Test.YtkbdnmmnnkoenaaE2
set_option linter.unusedVariables false
set_option linter.unusedSimpArgs false
set_option maxRecDepth 10000
set_option maxHeartbeats 4000000
namespace Go.Proofs.VI
open Go
theorem laws_big' (b : List UInt8) : Con 10 [.ro 1 (GByte.ros b)] (.bool (decide (1048576 < b.length))) [none] := by
  have lb : (GByte.ros b).length = b.length := by simp
  refine con Try.func10 ?_
  refine ⟨.of_eq (congrArg AV.bool ?_), trivial⟩
  rw [lb]
  by_cases h : 1048576 < b.length
  · rw [decide_eq_true h, decide_eq_true (by omega)]
  · rw [decide_eq_false h, decide_eq_false (by omega)]
theorem laws_atR (b : List UInt8) (hb : b.length ≤ 1099511627776) (i : Nat) (hi : i ≤ 100) : ∃ x : Int, (0 ≤ x ∧ x ≤ 255) ∧ Con 11 [.ro 1 (GByte.ros b), .int .i64 i] (.int .i64 x) [none, none] := by
  have lb : (GByte.ros b).length = b.length := by simp
  rcases Nat.lt_or_ge i b.length with g | g
  · have e0 : decide ((i : Int) < ((GByte.ros b).length : Int)) = true := decide_eq_true (by rw [lb]; omega)
    have hr : (GByte.ros b)[i]? = some (GByte.ro b[i]) := map_get _ _ g
    have hB : b[i].toNat < 256 := b[i].toNat_lt
    refine ⟨IntKind.wrap .i64 ((b[i].toNat : Nat) : Int), by rw [w64 (by omega) (by omega)]; omega, ?_⟩
    refine con Try.func11 ?_
    repeat' (first | (exfalso; rw [e0] at h; cases h; done) | refine And.intro (fun (h : _ = true) => ?_) (fun (h : _ = false) => ?_) | refine And.intro (fun (h : _ = false) => ?_) (fun (h : _ = true) => ?_) | refine And.intro (show regOk _ _ = true from by kernel_rfl) ?_ | refine And.intro (Sim.of_eq (congrArg (AV.int .i64) ?_)) trivial | refine ⟨Int.natCast_nonneg _, _, hr, ?_⟩ | fail)
    all_goals rfl
  · have e0 : decide ((i : Int) < ((GByte.ros b).length : Int)) = false := decide_eq_false (by rw [lb]; omega)
    have e1 : IntKind.wrap .i64 ((i : Int) * 31) = (i : Int) * 31 := w64 (by omega) (by omega)
    have e2 : IntKind.wrap .i64 (((GByte.ros b).length : Int) * 7) = (b.length : Int) * 7 := by rw [lb]; exact w64 (by omega) (by omega)
    have e3 : IntKind.wrap .i64 (IntKind.wrap .i64 ((i : Int) * 31) + IntKind.wrap .i64 (((GByte.ros b).length : Int) * 7)) = (i : Int) * 31 + (b.length : Int) * 7 := by rw [e1, e2]; exact w64 (by omega) (by omega)
    refine ⟨(IntKind.wrap .i64 (IntKind.wrap .i64 ((i : Int) * 31) + IntKind.wrap .i64 (((GByte.ros b).length : Int) * 7))).tmod 256, ?_, ?_⟩
    · rw [e3, Int.tmod_eq_emod_of_nonneg (by omega)]; omega
    refine con Try.func11 ?_
    repeat' (first | (exfalso; rw [e0] at h; cases h; done) | refine And.intro (fun (h : _ = true) => ?_) (fun (h : _ = false) => ?_) | refine And.intro (fun (h : _ = false) => ?_) (fun (h : _ = true) => ?_) | refine And.intro (show regOk _ _ = true from by kernel_rfl) ?_ | refine And.intro (Sim.of_eq (congrArg (AV.int .i64) ?_)) trivial | refine And.intro (show (256 : Int) ≠ 0 from by decide) ?_ | fail)
    all_goals rfl
theorem step1 {m m' : GMach} (hm : RightM m) (hs : m.stop = 0) (h : stepV m = m') : stepE m = m' ∧ RightM m' := ⟨(stepE_right hm hs).trans h, h ▸ stepV_right hm⟩
def arM (mem : List Int) (A B pc : Int) (n z v c : Bool) : GMach := ⟨mem, [0, A, B, 0, 0, 0, 512, pc], n, z, v, c, [], [], 0⟩
theorem arM_right {mem : List Int} (hl : mem.length = 256) (hw : wordsP mem) {A B pc : Int} (hA : 0 ≤ A ∧ A ≤ 65535) (hB : 0 ≤ B ∧ B ≤ 65535) (hp : 0 ≤ pc ∧ pc ≤ 65535) (n z v c : Bool) : RightM (arM mem A B pc n z v c) :=
  ⟨hl, rfl, by simp [arM], by simp [arM], hw, fun x hx => (by simp [arM] at hx; omega), fun x hx => (by cases hx), fun x hx => (by cases hx), (⟨by decide, by decide⟩ : (0 : Int) ≤ 0 ∧ (0 : Int) ≤ 2)⟩
def arI : List Int := [24642, 57410, 8258, 0]
theorem arI_words : wordsP arI := fun x hx => by simp [arI] at hx; omega
def arMem : List Int := newMem arI 32
theorem arMem_right : arMem.length = 256 ∧ wordsP arMem := ⟨newMem_len _ _ (by decide), newMem_words _ _ arI_words⟩
theorem ar_add {A B : Int} (hA : 0 ≤ A ∧ A ≤ 65535) (hB : 0 ≤ B ∧ B ≤ 65535) (n z v c : Bool) : stepE (arM arMem A B 64 n z v c) = arM arMem A (wr16 (wr16 (A + B))) 66 (minus (wr16 (A + B))) (decide (wr16 (A + B) = 0)) (dblO 5 A B) (decide (65535 < A + B)) :=
  (step1 (arM_right arMem_right.1 arMem_right.2 hA hB (by decide) n z v c) rfl (by kernel_rfl)).1
theorem ar_sub {A B : Int} (hA : 0 ≤ A ∧ A ≤ 65535) (hB : 0 ≤ B ∧ B ≤ 65535) (n z v c : Bool) : stepE (arM arMem A B 66 n z v c) = arM arMem A (wr16 (wr16 (B - A))) 68 (minus (wr16 (B - A))) (decide (wr16 (B - A) = 0)) (dblO 6 A B) (decide (B < A)) :=
  (step1 (arM_right arMem_right.1 arMem_right.2 hA hB (by decide) n z v c) rfl (by kernel_rfl)).1
theorem ar_cmp {A B : Int} (hA : 0 ≤ A ∧ A ≤ 65535) (hB : 0 ≤ B ∧ B ≤ 65535) (n z v c : Bool) : stepE (arM arMem A B 68 n z v c) = arM arMem A B 70 (minus (wr16 (A - B))) (decide (wr16 (A - B) = 0)) ((minus A != minus B) && (minus (wr16 (A - B)) == minus B)) (decide (A < B)) :=
  (step1 (arM_right arMem_right.1 arMem_right.2 hA hB (by decide) n z v c) rfl (by kernel_rfl)).1
theorem cmp_signed {A B : Int} (hA : 0 ≤ A ∧ A ≤ 65535) (hB : 0 ≤ B ∧ B ≤ 65535) : ((minus (wr16 (A - B)) != ((minus A != minus B) && (minus (wr16 (A - B)) == minus B))) == decide (signedV A < signedV B)) = true := by
  unfold minus signedV wr16
  have h1 : A % 65536 = A := by omega
  have h2 : B % 65536 = B := by omega
  rw [h1, h2]
  by_cases a : 32767 < A <;> by_cases b : 32767 < B <;> by_cases c : 32767 < (A - B) % 65536 <;> simp [a, b, c] <;> (repeat' split) <;> omega
theorem mach_arg {f : FuncId} {res : AV} {outs : List (Option AV)} (m : GMach) (rows : List (List AV)) (m' : GMach) (h : rows = GInt.ros m'.r) (he : m' = { m with r := m'.r }) (c : Con f [.agg (GMach.ro m')] res outs) : Con f [.agg [AV.ro 1 (toRoRows (GInt.ows m.mem)), .ro 1 (toRoRows rows), .bool m.n, .bool m.z, .bool m.v, .bool m.c, .ro 1 (toRoRows (GInt.ows m.inp)), .ro 1 (toRoRows (GInt.ows m.out)), .int .i64 m.stop]] res outs := by
  rw [mach_toRo' m rows m' h he]; exact c
theorem mach_arg2 {f : FuncId} {x res : AV} {outs : List (Option AV)} (m : GMach) (rows : List (List AV)) (m' : GMach) (h : rows = GInt.ros m'.r) (he : m' = { m with r := m'.r }) (c : Con f [.agg (GMach.ro m'), x] res outs) : Con f [.agg [AV.ro 1 (toRoRows (GInt.ows m.mem)), .ro 1 (toRoRows rows), .bool m.n, .bool m.z, .bool m.v, .bool m.c, .ro 1 (toRoRows (GInt.ows m.inp)), .ro 1 (toRoRows (GInt.ows m.out)), .int .i64 m.stop], x] res outs := by
  rw [mach_toRo' m rows m' h he]; exact c
abbrev arO (A B pc : Int) (n z v c : Bool) : AV := .agg [.ow 1 (GInt.ows arMem), .ow 1 [[.int .i64 0], [.int .i64 A], [.int .i64 B], [.int .i64 0], [.int .i64 0], [.int .i64 0], [.int .i64 512], [.int .i64 pc]], .bool n, .bool z, .bool v, .bool c, .ow 1 [], .ow 1 [], .int .i64 0]
theorem arO_nro (A B pc : Int) (n z v c : Bool) : noRo (arO A B pc n z v c) := GMach.noRo_ow (arM arMem A B pc n z v c)
end Go.Proofs.VI
