/- Contracts of functions, and what they rest on: l08any. -/
import Derived.Test.YtkbdnmmnnkoenaaE5
set_option linter.unusedVariables false
set_option linter.unusedSimpArgs false
set_option maxRecDepth 10000
set_option maxHeartbeats 4000000
namespace Go.Proofs.VI
open Go
theorem mach_ow4 (mem r inp out : List (List AV)) (m' : GMach) (h1 : mem = GInt.ros m'.mem) (h2 : r = GInt.ros m'.r) (h3 : inp = GInt.ros m'.inp) (h4 : out = GInt.ros m'.out) : [AV.ow 1 mem, .ow 1 r, .bool m'.n, .bool m'.z, .bool m'.v, .bool m'.c, .ow 1 inp, .ow 1 out, .int .i64 m'.stop] = GMach.ow m' := by
  subst h1 h2 h3 h4; rfl
theorem int_ints (l : List Int) (a b : Nat) : ∀ r ∈ ((GInt.ows l).drop a).take b, ∃ q z, r = [AV.int q z] := fun r hr => by
  have h := List.mem_of_mem_drop (List.mem_of_mem_take hr)
  rw [GInt.ows_eq] at h
  obtain ⟨x, _, rfl⟩ := List.mem_map.1 h
  exact ⟨_, _, rfl⟩
theorem spec_l5Any (b : List UInt8) (hb : b.length ≤ 1099511627776) (i : Nat) (h : Int) (hi : i ≤ b.length) : ∃ (m : GMach) (j : Nat) (h' : Int), GMach.fit m ∧ j ≤ b.length ∧ Con 57 [.pb (cRow b i h)] (.agg (GMach.ow m)) [some (.pb (cRow b j h'))] := by
  obtain ⟨m, j1, h1, hm, hs0, ho0, hj1, c1⟩ := spec_l5Draw b hb i h hi
  obtain ⟨k, j2, h2, hk, hj2, c2⟩ := spec_l1Below b hb j1 h1 hj1 16 (by decide)
  obtain ⟨f1, f2, f3, f4⟩ := GMach.fit_un hm.fit
  have lm : (GInt.ows m.mem).length = 256 := by simp [hm.mem]
  have lr : (GInt.ows m.r).length = 8 := by simp [hm.r]
  have nt : ∀ n : Int, k ≠ n → ¬ decide (k = n) = true := fun n hn h => hn (by simpa using h)
  by_cases k0 : k = 0
  · obtain ⟨x, j3, h3, hx, hj3, c3⟩ := spec_l1Int b hb j2 h2 hj2 [0, 100, 255] (by simp) (by simp)
    have hx : 0 ≤ x ∧ x ≤ 256 := by
      simp only [List.mem_cons, List.not_mem_nil, or_false] at hx
      omega
    refine ⟨{ m with mem := (m.mem.drop 0).take x.toNat }, j3, h3, GMach.fit_mk ⟨⟨by simp; omega, fun _ _ => trivial⟩, f2, f3, f4⟩, hj3, ?_⟩
    refine con Try.func57 ?_
    refine ⟨[.mut], .agg (GMach.ow m), [some (.pb (cRow b j1 h1))], c1, trivial, [.mut, .ro], .int .i64 k, [some (.pb (cRow b j2 h2)), none], c2, trivial, fun _ => ?_, fun h => absurd k0 (by simpa using h)⟩
    refine ⟨[.mut, .frz], .int .i64 x, [some (.pb (cRow b j3 h3)), none], c3, trivial, hx.1, (by rw [lm]; exact hx.2), int_ints _ _ _, by kernel_rfl, ?_⟩
    exact ⟨.of_eq (congrArg AV.agg (mach_ow4 _ _ _ _ { m with mem := (m.mem.drop 0).take x.toNat } (int_sub _ _ _) rfl rfl rfl)), .refl _, trivial⟩
  by_cases k1 : k = 1
  · obtain ⟨a, j3, h3, ha, hj3, c3⟩ := spec_l1Below b hb j2 h2 hj2 8 (by decide)
    obtain ⟨v, j4, h4, hv, hj4, c4⟩ := spec_l1Int b hb j3 h3 hj3 [-1, 65536, 65535] (by simp) (by simp)
    obtain ⟨a, rfl⟩ : ∃ m : Nat, a = m := ⟨a.toNat, by omega⟩
    have hlt : a < m.r.length := by rw [hm.r]; omega
    have hrow : (GInt.ros m.r)[((a : Nat) : Int).toNat]? = some [AV.int .i64 m.r[a]] := by rw [Int.toNat_natCast, map_get _ _ hlt]; rfl
    refine ⟨{ m with r := m.r.set a v }, j4, h4, GMach.fit_mk ⟨f1, ⟨by simp; exact f2.1, fun _ _ => trivial⟩, f3, f4⟩, hj4, ?_⟩
    refine con Try.func57 ?_
    refine ⟨[.mut], .agg (GMach.ow m), [some (.pb (cRow b j1 h1))], c1, trivial, [.mut, .ro], .int .i64 k, [some (.pb (cRow b j2 h2)), none], c2, trivial, fun h => absurd h (nt 0 k0), fun _ => ⟨fun _ => ?_, fun h => absurd k1 (by simpa using h)⟩⟩
    refine ⟨[.mut, .ro], .int .i64 a, [some (.pb (cRow b j3 h3)), none], c3, trivial, [.mut, .frz], .int .i64 v, [some (.pb (cRow b j4 h4)), none], c4, trivial, Int.natCast_nonneg _, (by rw [lr]; omega), _, hrow, by kernel_rfl, ?_⟩
    exact ⟨.of_eq (congrArg AV.agg (mach_ow4 _ _ _ _ { m with r := m.r.set a v } rfl (ros_set m.r a v) rfl rfl)), .refl _, trivial⟩
  by_cases k2 : k = 2
  · refine ⟨{ m with r := (m.r.drop 0).take 7 }, j2, h2, GMach.fit_mk ⟨f1, ⟨by simp; omega, fun _ _ => trivial⟩, f3, f4⟩, hj2, ?_⟩
    refine con Try.func57 ?_
    refine ⟨[.mut], .agg (GMach.ow m), [some (.pb (cRow b j1 h1))], c1, trivial, [.mut, .ro], .int .i64 k, [some (.pb (cRow b j2 h2)), none], c2, trivial, fun h => absurd h (nt 0 k0), fun _ => ⟨fun h => absurd h (nt 1 k1), fun _ => ⟨fun _ => ?_, fun h => absurd k2 (by simpa using h)⟩⟩⟩
    refine ⟨by decide, (by rw [lr]; decide), int_ints _ _ _, ?_⟩
    exact ⟨.of_eq (congrArg AV.agg (mach_ow4 _ _ _ _ { m with r := (m.r.drop 0).take 7 } rfl (int_sub _ _ _) rfl rfl)), .refl _, trivial⟩
  by_cases k3 : k = 3
  · obtain ⟨x, j3, h3, hx, hj3, c3⟩ := spec_l1Int b hb j2 h2 hj2 [-1, 1, 2, 3] (by simp) (by simp)
    refine ⟨{ m with stop := x }, j3, h3, GMach.fit_mk ⟨f1, f2, f3, f4⟩, hj3, ?_⟩
    refine con Try.func57 ?_
    refine ⟨[.mut], .agg (GMach.ow m), [some (.pb (cRow b j1 h1))], c1, trivial, [.mut, .ro], .int .i64 k, [some (.pb (cRow b j2 h2)), none], c2, trivial, fun h => absurd h (nt 0 k0), fun _ => ⟨fun h => absurd h (nt 1 k1), fun _ => ⟨fun h => absurd h (nt 2 k2), fun _ => ⟨fun _ => ?_, fun h => absurd k3 (by simpa using h)⟩⟩⟩⟩
    refine ⟨[.mut, .frz], .int .i64 x, [some (.pb (cRow b j3 h3)), none], c3, trivial, ?_⟩
    exact ⟨.of_eq (congrArg AV.agg (mach_ow4 _ _ _ _ { m with stop := x } rfl rfl rfl rfl)), .refl _, trivial⟩
  by_cases k4 : k = 4
  · obtain ⟨x, j3, h3, hx, hj3, c3⟩ := spec_l1Below b hb j2 h2 hj2 2 (by decide)
    have e : IntKind.wrap .i64 (50 + x) = 50 + x := w64 (by omega) (by omega)
    refine ⟨{ m with out := List.replicate (IntKind.wrap .i64 (50 + x)).toNat 0 }, j3, h3, GMach.fit_mk ⟨f1, f2, f3, ⟨by simp; omega, fun _ _ => trivial⟩⟩, hj3, ?_⟩
    refine con Try.func57 ?_
    refine ⟨[.mut], .agg (GMach.ow m), [some (.pb (cRow b j1 h1))], c1, trivial, [.mut, .ro], .int .i64 k, [some (.pb (cRow b j2 h2)), none], c2, trivial, fun h => absurd h (nt 0 k0), fun _ => ⟨fun h => absurd h (nt 1 k1), fun _ => ⟨fun h => absurd h (nt 2 k2), fun _ => ⟨fun h => absurd h (nt 3 k3), fun _ => ⟨fun _ => ?_, fun h => absurd k4 (by simpa using h)⟩⟩⟩⟩⟩
    refine ⟨[.mut, .ro], .int .i64 x, [some (.pb (cRow b j3 h3)), none], c3, trivial, rfl, (by rw [e]; omega), (by rw [e]; show (50 + x) * 8 ≤ 281474976710656; omega), ?_⟩
    exact ⟨.of_eq (congrArg AV.agg (mach_ow4 _ _ _ _ { m with out := List.replicate (IntKind.wrap .i64 (50 + x)).toNat 0 } rfl rfl rfl (rows_rep _))), .refl _, trivial⟩
  by_cases k5 : k = 5
  · refine ⟨{ m with inp := [-1] }, j2, h2, GMach.fit_mk ⟨f1, f2, ⟨by simp, fun _ _ => trivial⟩, f4⟩, hj2, ?_⟩
    refine con Try.func57 ?_
    refine ⟨[.mut], .agg (GMach.ow m), [some (.pb (cRow b j1 h1))], c1, trivial, [.mut, .ro], .int .i64 k, [some (.pb (cRow b j2 h2)), none], c2, trivial, fun h => absurd h (nt 0 k0), fun _ => ⟨fun h => absurd h (nt 1 k1), fun _ => ⟨fun h => absurd h (nt 2 k2), fun _ => ⟨fun h => absurd h (nt 3 k3), fun _ => ⟨fun h => absurd h (nt 4 k4), fun _ => ⟨fun _ => ?_, fun h => absurd k5 (by simpa using h)⟩⟩⟩⟩⟩⟩
    exact ⟨.of_eq (congrArg AV.agg (mach_ow4 _ _ _ _ { m with inp := [-1] } rfl rfl rfl rfl)), .refl _, trivial⟩
  · refine ⟨m, j2, h2, hm.fit, hj2, ?_⟩
    refine con Try.func57 ?_
    refine ⟨[.mut], .agg (GMach.ow m), [some (.pb (cRow b j1 h1))], c1, trivial, [.mut, .ro], .int .i64 k, [some (.pb (cRow b j2 h2)), none], c2, trivial, fun h => absurd h (nt 0 k0), fun _ => ⟨fun h => absurd h (nt 1 k1), fun _ => ⟨fun h => absurd h (nt 2 k2), fun _ => ⟨fun h => absurd h (nt 3 k3), fun _ => ⟨fun h => absurd h (nt 4 k4), fun _ => ⟨fun h => absurd h (nt 5 k5), fun _ => ?_⟩⟩⟩⟩⟩⟩
    exact ⟨.refl _, .refl _, trivial⟩
end Go.Proofs.VI
