/- Contracts of functions, and what they rest on: l08arith. -/
import Derived.Test.YtkbdnmmnnkoenaaE3
set_option linter.unusedVariables false
set_option linter.unusedSimpArgs false
set_option maxRecDepth 10000
set_option maxHeartbeats 4000000
namespace Go.Proofs.VI
open Go
theorem enc_ar (op : Int) (w : Int) (h0 : 0 ≤ op) (h1 : op < 24) (hi : insI ⟨op, ⟨0, 1, 0⟩, ⟨0, 2, 0⟩, 0⟩ = true) (he : encV ⟨op, ⟨0, 1, 0⟩, ⟨0, 2, 0⟩, 0⟩ = [w]) : Con 12 [.agg [.int .i64 op, .int .i64 0, .int .i64 1, .int .i64 0, .int .i64 0, .int .i64 2, .int .i64 0, .int .i64 0]] (.ow 1 [[.int .i64 w]]) [none] := by
  have c := impl_Encode ⟨op, ⟨0, 1, 0⟩, ⟨0, 2, 0⟩, 0⟩ h0 h1 hi
  rw [he] at c
  exact c
theorem law_Arith (code : List UInt8) (hl : code.length ≤ 9223372036854775807) (ho : ∀ y ∈ code, GByte.ok y) : Con 3 [.ro 1 (GByte.ros code)] (.bool true) [none] := by
  have cb := laws_big' code
  by_cases g : 1048576 < code.length
  · rw [decide_eq_true g] at cb
    refine con Try.func3 ?_
    exact ⟨[.ro], .tt, [none], .nbr rfl cb, trivial, .refl _, trivial⟩
  rw [decide_eq_false g] at cb
  have hb : code.length ≤ 1099511627776 := by omega
  obtain ⟨x2, r2, a2⟩ := laws_atR code hb 2 (by decide)
  obtain ⟨x3, r3, a3⟩ := laws_atR code hb 3 (by decide)
  obtain ⟨x4, r4, a4⟩ := laws_atR code hb 4 (by decide)
  obtain ⟨x5, r5, a5⟩ := laws_atR code hb 5 (by decide)
  have eA : IntKind.wrap .i64 (IntKind.wrap .i64 (x2 * 256) + x3) = x2 * 256 + x3 := by rw [w64 (x := x2 * 256) (by omega) (by omega)]; exact w64 (by omega) (by omega)
  have eB : IntKind.wrap .i64 (IntKind.wrap .i64 (x4 * 256) + x5) = x4 * 256 + x5 := by rw [w64 (x := x4 * 256) (by omega) (by omega)]; exact w64 (by omega) (by omega)
  generalize hA : IntKind.wrap .i64 (IntKind.wrap .i64 (x2 * 256) + x3) = A at *
  generalize hB : IntKind.wrap .i64 (IntKind.wrap .i64 (x4 * 256) + x5) = B at *
  have rA : 0 ≤ A ∧ A ≤ 65535 := by omega
  have rB : 0 ≤ B ∧ B ≤ 65535 := by omega
  have rm := arMem_right
  have cN : Con 13 [.ro 1 [[.int .i64 24642], [.int .i64 57410], [.int .i64 8258], [.int .i64 0]], .int .i64 64, .int .i64 64, .ro 1 []] (.agg (GMach.ow (arM arMem 0 0 64 false false false false))) [none, none, none, none] := impl_MachNew arI 32 64 [] (by decide) (by decide) arI_words (by decide) (fun x hx => by cases hx) (by decide)
  have c0 := impl_Step (arM arMem A B 64 false false false false) (arM_right rm.1 rm.2 rA rB (by decide) _ _ _ _).fit
  rw [ar_add rA rB] at c0
  have rS := wr16_in (A + B)
  have rSS := wr16_in (wr16 (A + B))
  have c1 := impl_Step (arM arMem A (wr16 (wr16 (A + B))) 66 (minus (wr16 (A + B))) (decide (wr16 (A + B) = 0)) (dblO 5 A B) (decide (65535 < A + B))) (arM_right rm.1 rm.2 rA rSS (by decide) _ _ _ _).fit
  rw [ar_sub rA rSS] at c1
  have eS : wr16 (wr16 (wr16 (wr16 (A + B)) - A)) = B := by simp only [wr16]; omega
  rw [eS] at c1
  have c2 := impl_Step (arM arMem A B 68 (minus (wr16 (wr16 (wr16 (A + B)) - A))) (decide (wr16 (wr16 (wr16 (A + B)) - A) = 0)) (dblO 6 A (wr16 (wr16 (A + B)))) (decide (wr16 (wr16 (A + B)) < A))) (arM_right rm.1 rm.2 rA rB (by decide) _ _ _ _).fit
  rw [ar_cmp rA rB] at c2
  have d1 : wr16 (wr16 (A + B)) = wr16 (IntKind.wrap .i64 (A + B)) := by rw [w64 (by omega) (by omega)]; simp only [wr16]; omega
  have d2 : IntKind.wrap .i64 (A + B) = A + B := w64 (by omega) (by omega)
  have t1 : decide (wr16 (wr16 (A + B)) = wr16 (IntKind.wrap .i64 (A + B))) = true := decide_eq_true d1
  have t2 : (decide (65535 < A + B) == decide (65535 < IntKind.wrap .i64 (A + B))) = true := by rw [d2]; simp
  have t3 : (minus (wr16 (A + B)) == decide (32768 ≤ wr16 (wr16 (A + B)))) = true := by
    have : wr16 (wr16 (A + B)) = wr16 (A + B) := by simp only [wr16]; omega
    rw [this, minus]
    simp only [beq_iff_eq]
    exact decide_eq_decide.2 ⟨fun h => by omega, fun h => by omega⟩
  have t4 : decide (B = B) = true := decide_eq_true rfl
  have t6 : decide (A = A) = true := decide_eq_true rfl
  have t7 : (decide (wr16 (A - B) = 0) == decide (A = B)) = true := by
    simp only [beq_iff_eq]
    exact decide_eq_decide.2 ⟨fun h => by simp only [wr16] at h; omega, fun h => by simp only [wr16]; omega⟩
  have t8 : (decide (A < B) == decide (A < B)) = true := by simp
  have t9 := cmp_signed rA rB
  clear eA eB eS d1 d2 r2 r3 r4 r5 ho hl g
  refine con Try.func3 ?_
  refine ⟨[.ro], .ff, [none], .nbr rfl cb, trivial, [.ro, .ro], .int .i64 x2, [none, none], a2, trivial, [.ro, .ro], .int .i64 x3, [none, none], a3, trivial, [.ro, .ro], .int .i64 x4, [none, none], a4, trivial, [.ro, .ro], .int .i64 x5, [none, none], a5, trivial, ?_⟩
  refine ⟨{ i : Nat // i ≤ 3 }, fun i => ⟨[(3, .int .i64 A), (4, .int .i64 B), (5, .own 0), (6, .own 1), (7, .int .i64 i.1)], [(0, .rows 1 (([[.int .i64 24642], [.int .i64 57410], [.int .i64 8258]] : List (List AV)).take i.1) []), (1, .rows 1 [[.int .i64 5], [.int .i64 6], [.int .i64 2]] [])]⟩, fun i => 3 - i.1, ⟨0, by decide⟩, ?_, ?_⟩
  · exact ⟨congrArg (AV.int .i64) hA, congrArg (AV.int .i64) hB, rfl, rfl, SimRows.refl _, rfl, SimRows.refl _, trivial⟩
  · rintro ⟨i, hi⟩
    dsimp only
    refine ⟨fun h => ?_, fun h => ?_⟩ <;> simp only [decide_eq_true_eq, decide_eq_false_iff_not] at h
    · have hi3 : i = 0 ∨ i = 1 ∨ i = 2 := by simp at h; omega
      rcases hi3 with rfl | rfl | rfl
      · exact ⟨by decide, by decide, _, rfl, [.ro], .ow 1 [[.int .i64 24642]], [none], enc_ar 5 24642 (by decide) (by decide) (by decide) (by decide), trivial, trivial, Nat.le_of_ble_eq_true rfl, ⟨⟨trivial, trivial⟩, trivial⟩, ⟨1, by decide⟩, by decide, rfl, rfl, rfl, rfl, SimRows.refl _, rfl, SimRows.refl _, trivial⟩
      · exact ⟨by decide, by decide, _, rfl, [.ro], .ow 1 [[.int .i64 57410]], [none], enc_ar 6 57410 (by decide) (by decide) (by decide) (by decide), trivial, trivial, Nat.le_of_ble_eq_true rfl, ⟨⟨trivial, trivial⟩, trivial⟩, ⟨2, by decide⟩, by decide, rfl, rfl, rfl, rfl, SimRows.refl _, rfl, SimRows.refl _, trivial⟩
      · exact ⟨by decide, by decide, _, rfl, [.ro], .ow 1 [[.int .i64 8258]], [none], enc_ar 2 8258 (by decide) (by decide) (by decide) (by decide), trivial, trivial, Nat.le_of_ble_eq_true rfl, ⟨⟨trivial, trivial⟩, trivial⟩, ⟨3, by decide⟩, by decide, rfl, rfl, rfl, rfl, SimRows.refl _, rfl, SimRows.refl _, trivial⟩
    · have hi3 : i = 3 := by simp at h; omega
      subst hi3
      refine ⟨trivial, Nat.le_of_ble_eq_true rfl, ⟨⟨trivial, trivial⟩, trivial⟩, [.ro, .ro, .ro, .ro], arO 0 0 64 false false false false, [none, none, none, none], cN, ⟨arO_nro _ _ _ _ _ _ _, trivial⟩, ?_⟩
      refine ⟨fun h => ?_, fun h => ?_⟩
      · exact absurd h (by decide)
      refine ⟨by decide, by decide, _, rfl, by decide, show (2 : Int) < 8 from by decide, _, rfl, ?_⟩
      refine ⟨[.ro], arO A (wr16 (wr16 (A + B))) 66 (minus (wr16 (A + B))) (decide (wr16 (A + B) = 0)) (dblO 5 A B) (decide (65535 < A + B)), [none], mach_arg (arM arMem 0 0 64 false false false false) _ (arM arMem A B 64 false false false false) rfl rfl c0, ⟨arO_nro _ _ _ _ _ _ _, trivial⟩, ?_⟩
      refine ⟨[.ro], .agg (GMach.ow (arM arMem A B 68 (minus (wr16 (wr16 (wr16 (A + B)) - A))) (decide (wr16 (wr16 (wr16 (A + B)) - A) = 0)) (dblO 6 A (wr16 (wr16 (A + B)))) (decide (wr16 (wr16 (A + B)) < A)))), [none], mach_arg (arM arMem A (wr16 (wr16 (A + B))) 66 (minus (wr16 (A + B))) (decide (wr16 (A + B) = 0)) (dblO 5 A B) (decide (65535 < A + B))) _ _ rfl rfl c1, ⟨arO_nro _ _ _ _ _ _ _, trivial⟩, ?_⟩
      refine ⟨[.ro], arO A B 70 (minus (wr16 (A - B))) (decide (wr16 (A - B) = 0)) ((minus A != minus B) && (minus (wr16 (A - B)) == minus B)) (decide (A < B)), [none], mach_arg (arM arMem A B 68 (minus (wr16 (wr16 (wr16 (A + B)) - A))) (decide (wr16 (wr16 (wr16 (A + B)) - A) = 0)) (dblO 6 A (wr16 (wr16 (A + B)))) (decide (wr16 (wr16 (A + B)) < A))) _ _ rfl rfl c2, ⟨arO_nro _ _ _ _ _ _ _, trivial⟩, ?_⟩
      refine ⟨[.ro], .int .i64 (signedV A), [none], impl_Signed A, trivial, [.ro], .int .i64 (signedV B), [none], impl_Signed B, trivial, ?_⟩
      repeat' (first | (exfalso; first | (with_reducible exact Bool.noConfusion (h.symm.trans t1)) | (with_reducible exact Bool.noConfusion (h.symm.trans t2)) | (with_reducible exact Bool.noConfusion (h.symm.trans t3)) | (with_reducible exact Bool.noConfusion (h.symm.trans t4)) | (with_reducible exact Bool.noConfusion (h.symm.trans t6)) | (with_reducible exact Bool.noConfusion (h.symm.trans t7)) | (with_reducible exact Bool.noConfusion (h.symm.trans t8)) | fail) | refine And.intro (fun (h : _ = true) => ?_) (fun (h : _ = false) => ?_) | refine And.intro (fun (h : _ = false) => ?_) (fun (h : _ = true) => ?_) | refine And.intro (show regOk _ _ = true from by kernel_rfl) ?_ | refine And.intro (Sim.of_eq (congrArg AV.bool ?_)) trivial | refine ⟨show (0 : Int) ≤ 2 from by decide, show (2 : Int) < 8 from by decide, _, rfl, ?_⟩ | refine ⟨show (0 : Int) ≤ 1 from by decide, show (1 : Int) < 8 from by decide, _, rfl, ?_⟩ | refine ⟨[.ro], .int .i64 _, [none], impl_Wrap _, trivial, ?_⟩ | fail)
      exact t9
end Go.Proofs.VI
