/- Contracts of functions, and what they rest on: l08push. -/
import Derived.Test.YtkbdnmmnnkoenaaE3
set_option linter.unusedVariables false
set_option linter.unusedSimpArgs false
set_option maxRecDepth 10000
set_option maxHeartbeats 4000000
namespace Go.Proofs.VI
open Go
def pM (mem : List Int) (r6 r3 pc : Int) (n z v : Bool) (st : Int) : GMach := ⟨mem, [0, 0, 0, r3, 0, 0, r6, pc], n, z, v, false, [], [], st⟩
def puI (n : Int) : List Int := [5606, n, 5507, 0]
theorem puI_words {n : Int} (h : 0 ≤ n ∧ n ≤ 65535) : wordsP (puI n) := fun x hx => by simp [puI] at hx; omega
theorem pushed {n : Int} (hn : 0 ≤ n ∧ n ≤ 65535) : runV (pM (newMem (puI n) 32) 512 0 64 false false false 0) 3 = pM ((newMem (puI n) 32).set 255 (wr16 n)) 512 (wr16 (wr16 n)) 72 (minus (wr16 n)) (decide (wr16 n = 0)) false 1 := by
  have h0 : RightM (pM (newMem (puI n) 32) 512 0 64 false false false 0) := newM_right (puI n) 32 64 [] (by show 32 + 4 ≤ 256; decide) (puI_words hn) (by decide) (fun x hx => by cases hx) (by decide)
  obtain ⟨e1, h1⟩ := step1 (m' := pM ((newMem (puI n) 32).set 255 (wr16 n)) 510 0 68 (minus n) (decide (n = 0)) false 0) h0 rfl (by kernel_rfl)
  obtain ⟨e2, h2⟩ := step1 (m' := pM ((newMem (puI n) 32).set 255 (wr16 n)) 512 (wr16 (wr16 n)) 70 (minus (wr16 n)) (decide (wr16 n = 0)) false 0) h1 rfl (by kernel_rfl)
  obtain ⟨e3, h3⟩ := step1 (m' := pM ((newMem (puI n) 32).set 255 (wr16 n)) 512 (wr16 (wr16 n)) 72 (minus (wr16 n)) (decide (wr16 n = 0)) false 1) h2 rfl (by kernel_rfl)
  show stepE (stepE (stepE (pM (newMem (puI n) 32) 512 0 64 false false false 0))) = _
  rw [e1, e2, e3]
abbrev pO (mem : List Int) (r6 r3 pc : Int) (n z v : Bool) (st : Int) : AV := .agg [.ow 1 (GInt.ows mem), .ow 1 [[.int .i64 0], [.int .i64 0], [.int .i64 0], [.int .i64 r3], [.int .i64 0], [.int .i64 0], [.int .i64 r6], [.int .i64 pc]], .bool n, .bool z, .bool v, .bool false, .ow 1 [], .ow 1 [], .int .i64 st]
theorem pO_nro (mem : List Int) (r6 r3 pc : Int) (n z v : Bool) (st : Int) : noRo (pO mem r6 r3 pc n z v st) := GMach.noRo_ow (pM mem r6 r3 pc n z v st)
theorem law_Pushed (code : List UInt8) (hl : code.length ≤ 9223372036854775807) (ho : ∀ y ∈ code, GByte.ok y) : Con 5 [.ro 1 (GByte.ros code)] (.bool true) [none] := by
  have cb := laws_big' code
  by_cases g : 1048576 < code.length
  · rw [decide_eq_true g] at cb
    refine con Try.func5 ?_
    exact ⟨[.ro], .tt, [none], .nbr rfl cb, trivial, .refl _, trivial⟩
  rw [decide_eq_false g] at cb
  have hb : code.length ≤ 1099511627776 := by omega
  obtain ⟨x2, r2, a2⟩ := laws_atR code hb 2 (by decide)
  obtain ⟨x3, r3, a3⟩ := laws_atR code hb 3 (by decide)
  have eA : IntKind.wrap .i64 (IntKind.wrap .i64 (x2 * 256) + x3) = x2 * 256 + x3 := by rw [w64 (x := x2 * 256) (by omega) (by omega)]; exact w64 (by omega) (by omega)
  generalize hA : IntKind.wrap .i64 (IntKind.wrap .i64 (x2 * 256) + x3) = A at *
  have rA : 0 ≤ A ∧ A ≤ 65535 := by omega
  have hw : wr16 A = A := by simp only [wr16]; omega
  have cE1 : Con 12 [.agg [.int .i64 1, .int .i64 2, .int .i64 7, .int .i64 A, .int .i64 4, .int .i64 6, .int .i64 0, .int .i64 0]] (.ow 1 [[.int .i64 5606], [.int .i64 A]]) [none] := by
    have hi : insI ⟨1, ⟨2, 7, A⟩, ⟨4, 6, 0⟩, 0⟩ = true := by
      have : inI A 0 65535 = true := inI_t rA
      simp [insI, opdE, inI, hasX, zB]; omega
    have c := impl_Encode ⟨1, ⟨2, 7, A⟩, ⟨4, 6, 0⟩, 0⟩ (show (0 : Int) ≤ 1 from by decide) (show (1 : Int) < 24 from by decide) hi
    have he : encV ⟨1, ⟨2, 7, A⟩, ⟨4, 6, 0⟩, 0⟩ = [5606, A] := by kernel_rfl
    rw [he] at c
    exact c
  have cE2 : Con 12 [.agg [.int .i64 1, .int .i64 2, .int .i64 6, .int .i64 0, .int .i64 0, .int .i64 3, .int .i64 0, .int .i64 0]] (.ow 1 [[.int .i64 5507]]) [none] := by
    have c := impl_Encode ⟨1, ⟨2, 6, 0⟩, ⟨0, 3, 0⟩, 0⟩ (by decide) (by decide) (by decide)
    have he : encV ⟨1, ⟨2, 6, 0⟩, ⟨0, 3, 0⟩, 0⟩ = [5507] := by decide
    rw [he] at c
    exact c
  have cN : Con 13 [.ro 1 [[.int .i64 5606], [.int .i64 A], [.int .i64 5507], [.int .i64 0]], .int .i64 64, .int .i64 64, .ro 1 []] (.agg (GMach.ow (pM (newMem (puI A) 32) 512 0 64 false false false 0))) [none, none, none, none] := impl_MachNew (puI A) 32 64 [] (by show 32 + 4 ≤ 256; decide) (by decide) (puI_words rA) (by decide) (fun x hx => by cases hx) (by decide)
  have h0 : RightM (pM (newMem (puI A) 32) 512 0 64 false false false 0) := newM_right (puI A) 32 64 [] (by show 32 + 4 ≤ 256; decide) (puI_words rA) (by decide) (fun x hx => by cases hx) (by decide)
  have cR := impl_Run (pM (newMem (puI A) 32) 512 0 64 false false false 0) 3 h0.fit
  rw [pushed rA, hw, hw] at cR
  refine conC (fun i => Nat.beq i 4) Try.func5 ?_
  refine ⟨[.ro], .ff, [none], .nbr rfl cb, trivial, [.ro, .ro], .int .i64 x2, [none, none], a2, trivial, [.ro, .ro], .int .i64 x3, [none, none], a3, trivial, ?_⟩
  refine ⟨Unit, fun _ => ⟨[(3, .int .i64 A)], []⟩, (), ⟨congrArg (AV.int .i64) hA, trivial⟩, ?_⟩
  rintro ⟨⟩
  dsimp only
  refine ⟨[.ro], .ow 1 [[.int .i64 5606], [.int .i64 A]], [none], cE1, trivial, [.ro], .ow 1 [[.int .i64 5507]], [none], cE2, trivial, trivial, Nat.le_of_ble_eq_true rfl, ⟨⟨trivial, trivial⟩, trivial⟩, ?_⟩
  refine ⟨trivial, Nat.le_of_ble_eq_true rfl, ⟨⟨trivial, trivial⟩, trivial⟩, [.ro, .ro, .ro, .ro], pO (newMem (puI A) 32) 512 0 64 false false false 0, [none, none, none, none], cN, ⟨pO_nro _ _ _ _ _ _ _ _, trivial⟩, ?_⟩
  refine ⟨[.ro, .ro], pO ((newMem (puI A) 32).set 255 A) 512 A 72 (minus A) (decide (A = 0)) false 1, [none, none], mach_arg2 (pM (newMem (puI A) 32) 512 0 64 false false false 0) _ _ rfl rfl cR, ⟨pO_nro _ _ _ _ _ _ _ _, trivial⟩, ?_⟩
  have t5 : (minus A == decide (32768 ≤ A)) = true := by
    simp only [beq_iff_eq, minus]
    exact decide_eq_decide.2 ⟨fun h => by omega, fun h => by omega⟩
  have t3 : decide (A = A) = true := decide_eq_true rfl
  have t6 : (decide (A = 0) == decide (A = 0)) = true := by simp
  repeat' (first | (exfalso; first | (with_reducible exact Bool.noConfusion (h.symm.trans t3)) | (with_reducible exact Bool.noConfusion (h.symm.trans t5)) | (cases h; done) | (exact absurd h (by decide)) | fail) | refine And.intro (fun (h : _ = true) => ?_) (fun (h : _ = false) => ?_) | refine And.intro (fun (h : _ = false) => ?_) (fun (h : _ = true) => ?_) | refine And.intro (show regOk _ _ = true from by kernel_rfl) ?_ | refine And.intro (Sim.of_eq (congrArg AV.bool ?_)) trivial | refine ⟨show (0 : Int) ≤ 3 from by decide, show (3 : Int) < 8 from by decide, _, rfl, ?_⟩ | refine ⟨show (0 : Int) ≤ 6 from by decide, show (6 : Int) < 8 from by decide, _, rfl, ?_⟩ | fail)
  exact t6
end Go.Proofs.VI
