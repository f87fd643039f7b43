/- Contracts of functions, and what they rest on: l08call. -/
import Derived.Test.YtkbdnmmnnkoenaaE3
set_option linter.unusedVariables false
set_option linter.unusedSimpArgs false
set_option maxRecDepth 10000
set_option maxHeartbeats 4000000
namespace Go.Proofs.VI
open Go
def caI (r : Int) : List Int := [2079 + 64 * r, 80, 0]
theorem caI_words {r : Int} (h : 0 ≤ r ∧ r < 6) : wordsP (caI r) := fun x hx => by simp [caI] at hx; omega
def caMem (r : Int) : List Int := (newMem (caI r) 32).set 40 (wr16 (128 + r))
def rR (r : Nat) (x : Int) (sp pc : Int) : List Int := ([0, 0, 0, 0, 0, 0, sp, pc] : List Int).set r x
def caM (mem : List Int) (r : Nat) (x sp pc st : Int) : GMach := ⟨mem, rR r x sp pc, false, false, false, false, [], [], st⟩
theorem caM_right {r : Nat} (h : r < 6) : RightM (caM (caMem r) r 1234 512 64 0) := by
  have h0 := newM_right (caI r) 32 64 [] (by show 32 + 3 ≤ 256; decide) (caI_words ⟨by omega, by omega⟩) (by decide) (fun x hx => by cases hx) (by decide)
  have h1 : RightM { newM (caI r) 32 64 [] with mem := caMem r } := ⟨by show (caMem r).length = 256; rw [caMem, List.length_set]; exact h0.mem, h0.r, h0.inp, h0.out, wordsP_set h0.wm _ (wr16_in _), h0.wr, h0.wi, h0.wo, h0.st⟩
  have h2 := h1.setR r (v := 1234) (by decide)
  exact h2
theorem called {r : Nat} (h : r < 6) : ∃ mem1 mem2 : List Int, stepE (caM (caMem r) r 1234 512 64 0) = caM mem1 r 68 510 80 0 ∧ runV (caM (caMem r) r 1234 512 64 0) 3 = caM mem2 r 1234 512 70 1 := by
  have h0 := caM_right h
  refine ⟨(caMem r).set 255 (wr16 1234), (caMem r).set 255 (wr16 1234), ?_⟩
  have key : stepV (caM (caMem r) r 1234 512 64 0) = caM ((caMem r).set 255 (wr16 1234)) r 68 510 80 0 ∧ stepV (caM ((caMem r).set 255 (wr16 1234)) r 68 510 80 0) = caM ((caMem r).set 255 (wr16 1234)) r 1234 512 68 0 ∧ stepV (caM ((caMem r).set 255 (wr16 1234)) r 1234 512 68 0) = caM ((caMem r).set 255 (wr16 1234)) r 1234 512 70 1 := by
    have hr : r = 0 ∨ r = 1 ∨ r = 2 ∨ r = 3 ∨ r = 4 ∨ r = 5 := by omega
    clear h h0
    rcases hr with rfl | rfl | rfl | rfl | rfl | rfl <;> exact ⟨by kernel_rfl, by kernel_rfl, by kernel_rfl⟩
  obtain ⟨k1, k2, k3⟩ := key
  obtain ⟨e1, h1⟩ := step1 h0 rfl k1
  obtain ⟨e2, h2⟩ := step1 h1 rfl k2
  obtain ⟨e3, h3⟩ := step1 h2 rfl k3
  refine ⟨e1, ?_⟩
  show stepE (stepE (stepE (caM (caMem r) r 1234 512 64 0))) = _
  rw [e1, e2, e3]
abbrev caO (mem : List Int) (l : List Int) (st : Int) : AV := .agg [.ow 1 (GInt.ows mem), .ow 1 (GInt.ows l), .bool false, .bool false, .bool false, .bool false, .ow 1 [], .ow 1 [], .int .i64 st]
theorem caO_nro (mem : List Int) (l : List Int) (st : Int) : noRo (caO mem l st) := GMach.noRo_ow ⟨mem, l, false, false, false, false, [], [], st⟩
theorem mach_arg3 {f : FuncId} {x y res : AV} {outs : List (Option AV)} (m : GMach) (rows : List (List AV)) (m' : GMach) (h : rows = GInt.ros m'.r) (he : m' = { m with r := m'.r }) (c : Con f [.agg (GMach.ro m'), x, y] res outs) : Con f [.agg [AV.ro 1 (toRoRows (GInt.ows m.mem)), .ro 1 (toRoRows rows), .bool m.n, .bool m.z, .bool m.v, .bool m.c, .ro 1 (toRoRows (GInt.ows m.inp)), .ro 1 (toRoRows (GInt.ows m.out)), .int .i64 m.stop], x, y] res outs := by
  rw [mach_toRo' m rows m' h he]; exact c
theorem law_CalledR (code : List UInt8) (hb : code.length ≤ 1099511627776) (g : ¬ 1048576 < code.length) (x2 : Int) (a2 : Con 11 [.ro 1 (GByte.ros code), .int .i64 2] (.int .i64 x2) [none, none]) (r : Nat) (hr : r = 0 ∨ r = 1 ∨ r = 2 ∨ r = 3 ∨ r = 4 ∨ r = 5) (hx : x2.tmod 6 = r) : Con 4 [.ro 1 (GByte.ros code)] (.bool true) [none] := by
  have cb := laws_big' code
  rw [decide_eq_false g] at cb
  have hr6 : r < 6 := by omega
  have e128 : IntKind.wrap .i64 (128 + (r : Int)) = 128 + (r : Int) := w64 (by omega) (by omega)
  have cE : Con 12 [.agg [.int .i64 15, .int .i64 0, .int .i64 0, .int .i64 0, .int .i64 3, .int .i64 7, .int .i64 80, .int .i64 r]] (.ow 1 [[.int .i64 (2079 + 64 * (r : Int))], [.int .i64 80]]) [none] := by
    have hi : insI ⟨15, ⟨0, 0, 0⟩, ⟨3, 7, 80⟩, r⟩ = true := by rcases hr with rfl | rfl | rfl | rfl | rfl | rfl <;> decide
    have he : encV ⟨15, ⟨0, 0, 0⟩, ⟨3, 7, 80⟩, r⟩ = [2079 + 64 * (r : Int), 80] := by rcases hr with rfl | rfl | rfl | rfl | rfl | rfl <;> decide
    have c := impl_Encode ⟨15, ⟨0, 0, 0⟩, ⟨3, 7, 80⟩, r⟩ (show (0 : Int) ≤ 15 from by decide) (show (15 : Int) < 24 from by decide) hi
    rw [he] at c
    exact c
  have hwI : wordsP (caI r) := caI_words ⟨by omega, by omega⟩
  have cN : Con 13 [.ro 1 [[.int .i64 (2079 + 64 * (r : Int))], [.int .i64 80], [.int .i64 0]], .int .i64 64, .int .i64 64, .ro 1 []] (caO (newMem (caI r) 32) [0, 0, 0, 0, 0, 0, 512, 64] 0) [none, none, none, none] := impl_MachNew (caI r) 32 64 [] (by show 32 + 3 ≤ 256; decide) (by decide) hwI (by decide) (fun x hx => by cases hx) (by decide)
  have h0 := newM_right (caI r) 32 64 [] (by show 32 + 3 ≤ 256; decide) hwI (by decide) (fun x hx => by cases hx) (by decide)
  have cW : Con 17 [.agg (GMach.ro (newM (caI r) 32 64 [])), .int .i64 80, .int .i64 (128 + (r : Int))] (.tup [caO (caMem r) [0, 0, 0, 0, 0, 0, 512, 64] 0, .bool true]) [none, none, none] := by
    have c := impl_WriteW (newM (caI r) 32 64 []) 80 (128 + (r : Int)) h0
    rw [writeV_some h0 _ (by decide)] at c
    exact c
  obtain ⟨mem1, mem2, q1, q2⟩ := called hr6
  have cS := impl_Step (caM (caMem r) r 1234 512 64 0) (caM_right hr6).fit
  rw [q1] at cS
  have cR := impl_Run (caM (caMem r) r 1234 512 64 0) 3 (caM_right hr6).fit
  rw [q2] at cR
  have cE : Con 12 [.agg [.int .i64 15, .int .i64 0, .int .i64 0, .int .i64 0, .int .i64 3, .int .i64 7, .int .i64 80, .int .i64 (x2.tmod 6)]] (.ow 1 [[.int .i64 (2079 + 64 * (r : Int))], [.int .i64 80]]) [none] := by rw [hx]; exact cE
  have cW : Con 17 [.agg (GMach.ro (newM (caI r) 32 64 [])), .int .i64 80, .int .i64 (IntKind.wrap .i64 (128 + x2.tmod 6))] (.tup [caO (caMem r) [0, 0, 0, 0, 0, 0, 512, 64] 0, .bool true]) [none, none, none] := by rw [hx, e128]; exact cW
  have i0 : 0 ≤ x2.tmod 6 := by omega
  have i8 : x2.tmod 6 < 8 := by omega
  have l8 : ∀ (r : Nat) (x sp pc : Int), ((GInt.ows (rR r x sp pc)).length : Int) = 8 := fun r x sp pc => by simp [rR]
  have hrow0 : (GInt.ows ([0, 0, 0, 0, 0, 0, 512, 64] : List Int))[(x2.tmod 6).toNat]? = some [AV.int .i64 0] := by rw [hx]; rcases hr with rfl | rfl | rfl | rfl | rfl | rfl <;> rfl
  have hset : (GInt.ows ([0, 0, 0, 0, 0, 0, 512, 64] : List Int)).set (x2.tmod 6).toNat [AV.int .i64 1234] = GInt.ros (rR r 1234 512 64) := by rw [hx]; rcases hr with rfl | rfl | rfl | rfl | rfl | rfl <;> rfl
  have w7 : (GInt.ows (rR r 68 510 80))[Int.toNat 7]? = some [AV.int .i64 80] := by rcases hr with rfl | rfl | rfl | rfl | rfl | rfl <;> rfl
  have w6 : (GInt.ows (rR r 68 510 80))[Int.toNat 6]? = some [AV.int .i64 510] := by rcases hr with rfl | rfl | rfl | rfl | rfl | rfl <;> rfl
  have wr : (GInt.ows (rR r 68 510 80))[(x2.tmod 6).toNat]? = some [AV.int .i64 68] := by rw [hx]; rcases hr with rfl | rfl | rfl | rfl | rfl | rfl <;> rfl
  have v6 : (GInt.ows (rR r 1234 512 70))[Int.toNat 6]? = some [AV.int .i64 512] := by rcases hr with rfl | rfl | rfl | rfl | rfl | rfl <;> rfl
  have vr : (GInt.ows (rR r 1234 512 70))[(x2.tmod 6).toNat]? = some [AV.int .i64 1234] := by rw [hx]; rcases hr with rfl | rfl | rfl | rfl | rfl | rfl <;> rfl
  refine con Try.func4 ?_
  refine ⟨[.ro], .ff, [none], .nbr rfl cb, trivial, [.ro, .ro], .int .i64 x2, [none, none], a2, trivial, by decide, [.ro], .ow 1 [[.int .i64 (2079 + 64 * (r : Int))], [.int .i64 80]], [none], cE, trivial, ?_⟩
  refine ⟨trivial, Nat.le_of_ble_eq_true rfl, ⟨⟨trivial, trivial⟩, trivial⟩, [.ro, .ro, .ro, .ro], caO (newMem (caI r) 32) [0, 0, 0, 0, 0, 0, 512, 64] 0, [none, none, none, none], cN, ⟨caO_nro _ _ _, trivial⟩, ?_⟩
  refine ⟨[.ro, .ro, .ro], .tup [caO (caMem r) [0, 0, 0, 0, 0, 0, 512, 64] 0, .tt], [none, none, none], .nbr rfl (mach_arg3 (newM (caI r) 32 64 []) _ _ rfl rfl cW), ⟨⟨caO_nro _ _ _, trivial, trivial⟩, trivial⟩, ?_⟩
  refine ⟨i0, i8, _, hrow0, ?_⟩
  refine ⟨[.ro], caO mem1 (rR r 68 510 80) 0, [none], mach_arg (caM (caMem r) r 1234 512 64 0) _ (caM (caMem r) r 1234 512 64 0) hset rfl cS, ⟨caO_nro _ _ _, trivial⟩, ?_⟩
  refine ⟨[.ro, .ro], caO mem2 (rR r 1234 512 70) 1, [none, none], mach_arg2 (caM (caMem r) r 1234 512 64 0) _ (caM (caMem r) r 1234 512 64 0) hset rfl cR, ⟨caO_nro _ _ _, trivial⟩, ?_⟩
  repeat' (first | (exfalso; first | (cases h; done) | (exact absurd h (by decide)) | fail) | refine And.intro (fun (h : _ = true) => ?_) (fun (h : _ = false) => ?_) | refine And.intro (fun (h : _ = false) => ?_) (fun (h : _ = true) => ?_) | refine And.intro (show regOk _ _ = true from by kernel_rfl) ?_ | refine And.intro (Sim.of_eq (congrArg AV.bool ?_)) trivial | refine ⟨show (0 : Int) ≤ 7 from by decide, (by rw [l8]; decide), _, w7, ?_⟩ | refine ⟨show (0 : Int) ≤ 6 from by decide, (by rw [l8]; decide), _, w6, ?_⟩ | refine ⟨show (0 : Int) ≤ 6 from by decide, (by rw [l8]; decide), _, v6, ?_⟩ | refine ⟨i0, (by rw [l8]; exact i8), _, wr, ?_⟩ | refine ⟨i0, (by rw [l8]; exact i8), _, vr, ?_⟩ | fail)
  all_goals decide
theorem law_Called (code : List UInt8) (hl : code.length ≤ 9223372036854775807) (ho : ∀ y ∈ code, GByte.ok y) : Con 4 [.ro 1 (GByte.ros code)] (.bool true) [none] := by
  have cb := laws_big' code
  by_cases g : 1048576 < code.length
  · rw [decide_eq_true g] at cb
    refine con Try.func4 ?_
    exact ⟨[.ro], .tt, [none], .nbr rfl cb, trivial, .refl _, trivial⟩
  have hb : code.length ≤ 1099511627776 := by omega
  obtain ⟨x2, r2, a2⟩ := laws_atR code hb 2 (by decide)
  have hm : x2.tmod 6 = x2 % 6 := Int.tmod_eq_emod_of_nonneg r2.1
  exact law_CalledR code hb g x2 a2 (x2 % 6).toNat (by omega) (by rw [hm]; omega)
end Go.Proofs.VI
