/- Contracts of functions, and what they rest on: l01draw l01new l08draw. -/
import Derived.Test.YtkbdnmmnnkoenaaE1
set_option linter.unusedVariables false
set_option linter.unusedSimpArgs false
set_option maxRecDepth 10000
set_option maxHeartbeats 4000000
namespace Go.Proofs.VI
open Go
def hNext (h : Int) : Int := IntKind.wrap .i64 (IntKind.wrap .i64 (h * 6364136223846793005) + 1442695040888963407)
def cRow (b : List UInt8) (i : Nat) (h : Int) : List AV := [.ro 1 (GByte.ros b), .int .i64 i, .int .i64 h]
theorem cRow_mk {b : List UInt8} {i' h h' : Int} {j : Nat} (e : i' = (j : Int)) (e2 : h = h') : AV.pb [.ro 1 (GByte.ros b), .int .i64 i', .int .i64 h] = AV.pb (cRow b j h') := by subst e; subst e2; rfl
theorem spec_l1Byte (b : List UInt8) (hb : b.length ≤ 1099511627776) (i : Nat) (h : Int) (hi : i ≤ b.length) : ∃ (x : Int) (j : Nat) (h' : Int), (0 ≤ x ∧ x ≤ 255) ∧ j ≤ b.length ∧ Con 83 [.pb (cRow b i h)] (.int .i64 x) [some (.pb (cRow b j h'))] := by
  have lb : (GByte.ros b).length = b.length := by simp
  have hm : ∀ z : Int, 0 ≤ bitsI .and .i64 z 255 ∧ bitsI .and .i64 z 255 ≤ 255 := fun z => by rw [and_255]; omega
  rcases Nat.lt_or_ge i b.length with g | g
  · have e0 : decide ((i : Int) < ((GByte.ros b).length : Int)) = true := decide_eq_true (by rw [lb]; omega)
    have hr : (GByte.ros b)[i]? = some (GByte.ro b[i]) := map_get _ _ g
    have e1 : IntKind.wrap .i64 ((i : Int) + 1) = ((i + 1 : Nat) : Int) := w64 (by omega) (by omega)
    refine ⟨bitsI .and .i64 ?z 255, i + 1, hNext h, hm _, g, ?c⟩
    case c =>
    refine con Try.func83 ?_
    repeat' (first | (exfalso; rw [e0] at h; cases h; done) | refine And.intro (fun (h : _ = true) => ?_) (fun (h : _ = false) => ?_) | refine And.intro (fun (h : _ = false) => ?_) (fun (h : _ = true) => ?_) | refine And.intro (show regOk _ _ = true from by kernel_rfl) ?_ | refine And.intro (Sim.of_eq (congrArg (AV.int .i64) ?_)) (And.intro (Sim.of_eq ?_) trivial) | refine And.intro (show (0 : Int) ≤ 33 from by decide) ?_ | refine And.intro (show (0 : Int) ≤ 47 from by decide) ?_ | refine ⟨Int.natCast_nonneg _, _, hr, ?_⟩ | fail)
    · with_reducible rfl
    · exact cRow_mk e1 rfl
  · have e0 : decide ((i : Int) < ((GByte.ros b).length : Int)) = false := decide_eq_false (by rw [lb]; omega)
    refine ⟨bitsI .and .i64 ?z2 255, i, hNext h, hm _, hi, ?c⟩
    case c =>
    refine con Try.func83 ?_
    repeat' (first | (exfalso; rw [e0] at h; cases h; done) | refine And.intro (fun (h : _ = true) => ?_) (fun (h : _ = false) => ?_) | refine And.intro (fun (h : _ = false) => ?_) (fun (h : _ = true) => ?_) | refine And.intro (show regOk _ _ = true from by kernel_rfl) ?_ | refine And.intro (Sim.of_eq (congrArg (AV.int .i64) ?_)) (And.intro (Sim.of_eq ?_) trivial) | refine And.intro (show (0 : Int) ≤ 33 from by decide) ?_ | refine And.intro (show (0 : Int) ≤ 47 from by decide) ?_ | fail)
    · with_reducible rfl
    · exact cRow_mk rfl rfl
theorem tmod_in {n : Int} (hn : 0 < n) (z : Int) (hz : 0 ≤ z) : 0 ≤ z.tmod n ∧ z.tmod n < n := ⟨Int.tmod_nonneg _ hz, Int.tmod_lt_of_pos _ hn⟩
theorem spec_l1Below (b : List UInt8) (hb : b.length ≤ 1099511627776) (i : Nat) (h : Int) (hi : i ≤ b.length) (n : Int) (hn : 0 < n) : ∃ (x : Int) (j : Nat) (h' : Int), (0 ≤ x ∧ x < n) ∧ j ≤ b.length ∧ Con 55 [.pb (cRow b i h), .int .i64 n] (.int .i64 x) [some (.pb (cRow b j h')), none] := by
  obtain ⟨x1, j1, h1, hx1, hj1, c1⟩ := spec_l1Byte b hb i h hi
  obtain ⟨x2, j2, h2, hx2, hj2, c2⟩ := spec_l1Byte b hb j1 h1 hj1
  obtain ⟨x3, j3, h3, hx3, hj3, c3⟩ := spec_l1Byte b hb j2 h2 hj2
  have n0 : n ≠ 0 := by omega
  have e0 : decide (n ≤ 0) = false := decide_eq_false (by omega)
  by_cases hn2 : n ≤ 256
  · have e1 : decide (n ≤ 256) = true := decide_eq_true hn2
    refine ⟨x1.tmod n, j1, h1, tmod_in hn _ hx1.1, hj1, ?_⟩
    refine con Try.func55 ?_
    repeat' (first | (exfalso; (first | rw [e0] at h | rw [e1] at h); cases h; done) | refine And.intro (fun (h : _ = true) => ?_) (fun (h : _ = false) => ?_) | refine And.intro (fun (h : _ = false) => ?_) (fun (h : _ = true) => ?_) | refine And.intro (show regOk _ _ = true from by kernel_rfl) ?_ | refine ⟨[.mut], .int .i64 x1, [some (.pb (cRow b j1 h1))], c1, trivial, ?_⟩ | refine And.intro n0 ?_ | refine And.intro (Sim.of_eq (congrArg (AV.int .i64) ?_)) (And.intro (Sim.of_eq ?_) trivial) | fail)
    · rfl
    · rfl
  · have e1 : decide (n ≤ 256) = false := decide_eq_false hn2
    have g1 : IntKind.wrap .i64 (x1 * 65536) = x1 * 65536 := w64 (by omega) (by omega)
    have g2 : IntKind.wrap .i64 (x2 * 256) = x2 * 256 := w64 (by omega) (by omega)
    have g3 : IntKind.wrap .i64 (x1 * 65536 + x2 * 256) = x1 * 65536 + x2 * 256 := w64 (by omega) (by omega)
    have g4 : IntKind.wrap .i64 (x1 * 65536 + x2 * 256 + x3) = x1 * 65536 + x2 * 256 + x3 := w64 (by omega) (by omega)
    refine ⟨(x1 * 65536 + x2 * 256 + x3).tmod n, j3, h3, tmod_in hn _ (by omega), hj3, ?_⟩
    refine con Try.func55 ?_
    repeat' (first | (exfalso; (first | rw [e0] at h | rw [e1] at h); cases h; done) | refine And.intro (fun (h : _ = true) => ?_) (fun (h : _ = false) => ?_) | refine And.intro (fun (h : _ = false) => ?_) (fun (h : _ = true) => ?_) | refine And.intro (show regOk _ _ = true from by kernel_rfl) ?_ | refine ⟨[.mut], .int .i64 x1, [some (.pb (cRow b j1 h1))], c1, trivial, ?_⟩ | refine ⟨[.mut], .int .i64 x2, [some (.pb (cRow b j2 h2))], c2, trivial, ?_⟩ | refine ⟨[.mut], .int .i64 x3, [some (.pb (cRow b j3 h3))], c3, trivial, ?_⟩ | refine And.intro n0 ?_ | refine And.intro (Sim.of_eq (congrArg (AV.int .i64) ?_)) (And.intro (Sim.of_eq ?_) trivial) | fail)
    · rw [g1, g2, g3, g4]
    · rfl
theorem spec_l1Once (b : List UInt8) (hb : b.length ≤ 1099511627776) (i : Nat) (h : Int) (hi : i ≤ b.length) (n : Int) (hn : 0 < n) : ∃ (x : Bool) (j : Nat) (h' : Int), j ≤ b.length ∧ Con 56 [.pb (cRow b i h), .int .i64 n] (.bool x) [some (.pb (cRow b j h')), none] := by
  obtain ⟨x, j, h', hx, hj, c⟩ := spec_l1Below b hb i h hi n hn
  refine ⟨decide (x = 0), j, h', hj, ?_⟩
  refine con Try.func56 ?_
  exact ⟨[.mut, .ro], .int .i64 x, [some (.pb (cRow b j h')), none], c, trivial, .refl _, .refl _, trivial⟩
theorem spec_l1Int (b : List UInt8) (hb : b.length ≤ 1099511627776) (i : Nat) (h : Int) (hi : i ≤ b.length) (l : List Int) (hl : l ≠ []) (h40 : l.length ≤ 1099511627776) : ∃ (x : Int) (j : Nat) (h' : Int), x ∈ l ∧ j ≤ b.length ∧ Con 82 [.pb (cRow b i h), .ro 1 (GInt.ros l)] (.int .i64 x) [some (.pb (cRow b j h')), none] := by
  have h0 : 0 < l.length := List.length_pos_iff.2 hl
  have ll : (GInt.ros l).length = l.length := by simp
  obtain ⟨x, j, h', hx, hj, c⟩ := spec_l1Below b hb i h hi l.length (by omega)
  have hlt : x.toNat < l.length := by omega
  have hr : (GInt.ros l)[x.toNat]? = some (GInt.ro l[x.toNat]) := map_get _ _ hlt
  rw [← ll] at c
  refine ⟨l[x.toNat], j, h', List.getElem_mem _, hj, ?_⟩
  refine con Try.func82 ?_
  exact ⟨[.mut, .ro], .int .i64 x, [some (.pb (cRow b j h')), none], c, trivial, hx.1, _, hr, .refl _, .refl _, trivial⟩
theorem spec_l1Word (b : List UInt8) (hb : b.length ≤ 1099511627776) (i : Nat) (h : Int) (hi : i ≤ b.length) : ∃ (x : Int) (j : Nat) (h' : Int), (0 ≤ x ∧ x ≤ 65535) ∧ j ≤ b.length ∧ Con 79 [.pb (cRow b i h)] (.int .i64 x) [some (.pb (cRow b j h'))] := by
  obtain ⟨x, j, h1, hx, hj, c⟩ := spec_l1Below b hb i h hi 65536 (by decide)
  obtain ⟨y, k, h2, hy, hk, c2⟩ := spec_l1Int b hb j h1 hj [0, 1, 2, 3, 5, 8, 255, 32767, 32768, 65535, x] (by simp) (by simp)
  refine ⟨y, k, h2, ?_, hk, ?_⟩
  · simp only [List.mem_cons, List.not_mem_nil, or_false] at hy
    omega
  refine con Try.func79 ?_
  exact ⟨[.mut, .ro], .int .i64 x, [some (.pb (cRow b j h1)), none], c, trivial, [.mut, .frz], .int .i64 y, [some (.pb (cRow b k h2)), none], c2, trivial, .refl _, .refl _, trivial⟩
def hNew (b : List UInt8) : Nat → Int
  | 0 => IntKind.wrap .i64 (766766 + (b.length : Int))
  | i + 1 => bitsI .and .i64 (IntKind.wrap .i64 (IntKind.wrap .i64 (IntKind.wrap .i64 (hNew b i * 137) + IntKind.wrap .i64 ((b.getD i 0).toNat : Int)) + 11)) 1073741823
theorem spec_l1New (b : List UInt8) (hb : b.length ≤ 1099511627776) : ∃ (h' : Int), Con 53 [.ro 1 (GByte.ros b)] (.pb (cRow b 0 h')) [none] := by
  have lb : (GByte.ros b).length = b.length := by simp
  refine ⟨hNew b (min b.length 4000), ?_⟩
  refine con Try.func53 ?_
  refine ⟨{ i : Nat // i ≤ b.length ∧ i ≤ 4000 }, fun i => ⟨[(0, .ro 1 (GByte.ros b)), (3, .int .i64 (hNew b i.1)), (4, .int .i64 i.1)], []⟩, fun i => b.length - i.1, ⟨0, by omega⟩, ?_, ?_⟩
  · exact ⟨rfl, congrArg (AV.int .i64) (by rw [lb]; rfl), rfl, trivial⟩
  · rintro ⟨i, hi, hi4⟩
    dsimp only
    by_cases g : i < b.length ∧ i < 4000
    · have e0 : decide ((i : Int) < ((GByte.ros b).length : Int)) = true := decide_eq_true (by rw [lb]; omega)
      have e2 : decide ((i : Int) < 4000) = true := decide_eq_true (by omega)
      have hr : (GByte.ros b)[i]? = some (GByte.ro b[i]) := map_get _ _ g.1
      have hg : b.getD i 0 = b[i] := by simp [g.1]
      have e1 : IntKind.wrap .i64 ((i : Int) + 1) = ((i + 1 : Nat) : Int) := w64 (by omega) (by omega)
      have hN : bitsI .and .i64 (IntKind.wrap .i64 (IntKind.wrap .i64 (IntKind.wrap .i64 (hNew b i * 137) + IntKind.wrap .i64 ((b[i].toNat : Nat) : Int)) + 11)) 1073741823 = hNew b (i + 1) := by rw [hNew, hg]
      repeat' (first | (exfalso; (first | rw [e0] at h | rw [e2] at h); cases h; done) | refine And.intro (fun (h : _ = true) => ?_) (fun (h : _ = false) => ?_) | refine And.intro (fun (h : _ = false) => ?_) (fun (h : _ = true) => ?_) | refine And.intro (show regOk _ _ = true from by kernel_rfl) ?_ | refine ⟨Int.natCast_nonneg _, _, hr, ?_⟩ | refine ⟨⟨i + 1, g.1, g.2⟩, Nat.sub_succ_lt_self _ _ g.1, rfl, congrArg (AV.int .i64) hN, congrArg (AV.int .i64) e1, trivial⟩ | fail)
    · have hm : min b.length 4000 = i := by omega
      rw [hm]
      rcases Nat.lt_or_ge i b.length with g1 | g1
      · have e0 : decide ((i : Int) < ((GByte.ros b).length : Int)) = true := decide_eq_true (by rw [lb]; omega)
        have e2 : decide ((i : Int) < 4000) = false := decide_eq_false (by omega)
        repeat' (first | (exfalso; (first | rw [e0] at h | rw [e2] at h); cases h; done) | refine And.intro (fun (h : _ = true) => ?_) (fun (h : _ = false) => ?_) | refine And.intro (fun (h : _ = false) => ?_) (fun (h : _ = true) => ?_) | refine And.intro (show regOk _ _ = true from by kernel_rfl) ?_ | refine And.intro (Sim.refl _) trivial | fail)
      · have e0 : decide ((i : Int) < ((GByte.ros b).length : Int)) = false := decide_eq_false (by rw [lb]; omega)
        repeat' (first | (exfalso; rw [e0] at h; cases h; done) | refine And.intro (fun (h : _ = true) => ?_) (fun (h : _ = false) => ?_) | refine And.intro (fun (h : _ = false) => ?_) (fun (h : _ = true) => ?_) | refine And.intro (show regOk _ _ = true from by kernel_rfl) ?_ | refine And.intro (Sim.refl _) trivial | fail)
def Runs {σ : Type} (step : σ → σ → Prop) : Nat → σ → σ → Prop
  | 0, s, t => s = t
  | k + 1, s, t => ∃ s', step s s' ∧ Runs step k s' t
theorem runs_ex {σ : Type} {step : σ → σ → Prop} {Q : Nat → σ → Prop} (h : ∀ k s, Q (k + 1) s → ∃ s', step s s' ∧ Q k s') : ∀ k s, Q k s → ∃ t, Runs step k s t ∧ Q 0 t
  | 0, s, q => ⟨s, rfl, q⟩
  | k + 1, s, q => by
    obtain ⟨s', h1, q'⟩ := h k s q
    obtain ⟨t, h2, q2⟩ := runs_ex h k s' q'
    exact ⟨t, ⟨s', h1, h2⟩, q2⟩
theorem spec_l3Opd (b : List UInt8) (hb : b.length ≤ 1099511627776) (i : Nat) (h : Int) (hi : i ≤ b.length) : ∃ (o : GOpd) (j : Nat) (h' : Int), j ≤ b.length ∧ Con 114 [.pb (cRow b i h)] (.agg (GOpd.ro o)) [some (.pb (cRow b j h'))] := by
  obtain ⟨m1, j1, h1, _, hj1, c1⟩ := spec_l1Int b hb i h hi [0, 0, 1, 2, 3, 4, 5, 6, 7, 2] (by simp) (by simp)
  obtain ⟨r1, j2, h2, _, hj2, c2⟩ := spec_l1Int b hb j1 h1 hj1 [0, 1, 2, 5, 6, 7, 7] (by simp) (by simp)
  have cX := spec_HasX ⟨m1, r1, 0⟩
  cases hx : hasX ⟨m1, r1, 0⟩ with
  | false =>
    rw [hx] at cX
    refine ⟨⟨m1, r1, 0⟩, j2, h2, hj2, ?_⟩
    refine con Try.func114 ?_
    exact ⟨[.mut, .frz], .int .i64 m1, [some (.pb (cRow b j1 h1)), none], c1, trivial, [.mut, .frz], .int .i64 r1, [some (.pb (cRow b j2 h2)), none], c2, trivial, [.ro], .ff, [none], .nbr rfl cX, trivial, .refl _, .refl _, trivial⟩
  | true =>
    rw [hx] at cX
    obtain ⟨w, j3, h3, _, hj3, c3⟩ := spec_l1Word b hb j2 h2 hj2
    refine ⟨⟨m1, r1, w⟩, j3, h3, hj3, ?_⟩
    refine con Try.func114 ?_
    exact ⟨[.mut, .frz], .int .i64 m1, [some (.pb (cRow b j1 h1)), none], c1, trivial, [.mut, .frz], .int .i64 r1, [some (.pb (cRow b j2 h2)), none], c2, trivial, [.ro], .tt, [none], .nbr rfl cX, trivial, [.mut], .int .i64 w, [some (.pb (cRow b j3 h3))], c3, trivial, .refl _, .refl _, trivial⟩
theorem spec_l3Draw (b : List UInt8) (hb : b.length ≤ 1099511627776) (i : Nat) (h : Int) (hi : i ≤ b.length) : ∃ (x : GIns) (j : Nat) (h' : Int), j ≤ b.length ∧ Con 102 [.pb (cRow b i h)] (.agg (GIns.ro x)) [some (.pb (cRow b j h'))] := by
  obtain ⟨k, j1, h1, hk, hj1, c1⟩ := spec_l1Below b hb i h hi 23 (by decide)
  have e : IntKind.wrap .i64 (1 + k) = 1 + k := w64 (by omega) (by omega)
  have cI := spec_l1In (IntKind.wrap .i64 (1 + k)) 17 21
  by_cases g6 : 1 + k ≤ 6
  · obtain ⟨o1, j2, h2, hj2, c2⟩ := spec_l3Opd b hb j1 h1 hj1
    obtain ⟨o2, j3, h3, hj3, c3⟩ := spec_l3Opd b hb j2 h2 hj2
    rw [inI_f (by rw [e]; omega)] at cI
    refine ⟨⟨IntKind.wrap .i64 (1 + k), o1, o2, 0⟩, j3, h3, hj3, ?_⟩
    refine con Try.func102 ?_
    repeat' (first | (exfalso; simp only [e, decide_eq_true_eq, decide_eq_false_iff_not] at h; omega) | refine And.intro (fun (h : _ = true) => ?_) (fun (h : _ = false) => ?_) | refine And.intro (fun (h : _ = false) => ?_) (fun (h : _ = true) => ?_) | refine And.intro (show regOk _ _ = true from by kernel_rfl) ?_ | refine ⟨[.mut, .ro], .int .i64 k, [some (.pb (cRow b j1 h1)), none], c1, trivial, ?_⟩ | refine ⟨[.mut], .agg (GOpd.ro o1), [some (.pb (cRow b j2 h2))], c2, trivial, ?_⟩ | refine ⟨[.mut], .agg (GOpd.ro o2), [some (.pb (cRow b j3 h3))], c3, trivial, ?_⟩ | refine ⟨[.ro, .ro, .ro], .ff, [none, none, none], .nbr rfl cI, trivial, ?_⟩ | refine And.intro (Sim.refl _) (And.intro (Sim.refl _) trivial) | fail)
  by_cases g15 : 1 + k < 15
  · obtain ⟨o2, j3, h3, hj3, c3⟩ := spec_l3Opd b hb j1 h1 hj1
    rw [inI_f (by rw [e]; omega)] at cI
    refine ⟨⟨IntKind.wrap .i64 (1 + k), zOpd, o2, 0⟩, j3, h3, hj3, ?_⟩
    refine con Try.func102 ?_
    repeat' (first | (exfalso; simp only [e, decide_eq_true_eq, decide_eq_false_iff_not] at h; omega) | refine And.intro (fun (h : _ = true) => ?_) (fun (h : _ = false) => ?_) | refine And.intro (fun (h : _ = false) => ?_) (fun (h : _ = true) => ?_) | refine And.intro (show regOk _ _ = true from by kernel_rfl) ?_ | refine ⟨[.mut, .ro], .int .i64 k, [some (.pb (cRow b j1 h1)), none], c1, trivial, ?_⟩ | refine ⟨[.mut], .agg (GOpd.ro o2), [some (.pb (cRow b j3 h3))], c3, trivial, ?_⟩ | refine ⟨[.ro, .ro, .ro], .ff, [none, none, none], .nbr rfl cI, trivial, ?_⟩ | refine And.intro (Sim.refl _) (And.intro (Sim.refl _) trivial) | fail)
  by_cases g : 1 + k = 15
  · obtain ⟨o2, j3, h3, hj3, c3⟩ := spec_l3Opd b hb j1 h1 hj1
    obtain ⟨n, j4, h4, _, hj4, c4⟩ := spec_l1Below b hb j3 h3 hj3 8 (by decide)
    refine ⟨⟨IntKind.wrap .i64 (1 + k), zOpd, o2, n⟩, j4, h4, hj4, ?_⟩
    refine con Try.func102 ?_
    repeat' (first | (exfalso; simp only [e, decide_eq_true_eq, decide_eq_false_iff_not] at h; omega) | refine And.intro (fun (h : _ = true) => ?_) (fun (h : _ = false) => ?_) | refine And.intro (fun (h : _ = false) => ?_) (fun (h : _ = true) => ?_) | refine And.intro (show regOk _ _ = true from by kernel_rfl) ?_ | refine ⟨[.mut, .ro], .int .i64 k, [some (.pb (cRow b j1 h1)), none], c1, trivial, ?_⟩ | refine ⟨[.mut], .agg (GOpd.ro o2), [some (.pb (cRow b j3 h3))], c3, trivial, ?_⟩ | refine ⟨[.mut, .ro], .int .i64 n, [some (.pb (cRow b j4 h4)), none], c4, trivial, ?_⟩ | refine And.intro (Sim.refl _) (And.intro (Sim.refl _) trivial) | fail)
  by_cases g : 1 + k = 16
  · obtain ⟨n, j4, h4, _, hj4, c4⟩ := spec_l1Below b hb j1 h1 hj1 8 (by decide)
    refine ⟨⟨IntKind.wrap .i64 (1 + k), zOpd, zOpd, n⟩, j4, h4, hj4, ?_⟩
    refine con Try.func102 ?_
    repeat' (first | (exfalso; simp only [e, decide_eq_true_eq, decide_eq_false_iff_not] at h; omega) | refine And.intro (fun (h : _ = true) => ?_) (fun (h : _ = false) => ?_) | refine And.intro (fun (h : _ = false) => ?_) (fun (h : _ = true) => ?_) | refine And.intro (show regOk _ _ = true from by kernel_rfl) ?_ | refine ⟨[.mut, .ro], .int .i64 k, [some (.pb (cRow b j1 h1)), none], c1, trivial, ?_⟩ | refine ⟨[.mut, .ro], .int .i64 n, [some (.pb (cRow b j4 h4)), none], c4, trivial, ?_⟩ | refine And.intro (Sim.refl _) (And.intro (Sim.refl _) trivial) | fail)
  by_cases g21 : 1 + k ≤ 21
  · obtain ⟨n, j4, h4, _, hj4, c4⟩ := spec_l1Int b hb j1 h1 hj1 [-128, 127, 0, -1, 1, 2, -3] (by simp) (by simp)
    rw [inI_t (by rw [e]; omega)] at cI
    refine ⟨⟨IntKind.wrap .i64 (1 + k), zOpd, zOpd, n⟩, j4, h4, hj4, ?_⟩
    refine con Try.func102 ?_
    repeat' (first | (exfalso; simp only [e, decide_eq_true_eq, decide_eq_false_iff_not] at h; omega) | refine And.intro (fun (h : _ = true) => ?_) (fun (h : _ = false) => ?_) | refine And.intro (fun (h : _ = false) => ?_) (fun (h : _ = true) => ?_) | refine And.intro (show regOk _ _ = true from by kernel_rfl) ?_ | refine ⟨[.mut, .ro], .int .i64 k, [some (.pb (cRow b j1 h1)), none], c1, trivial, ?_⟩ | refine ⟨[.ro, .ro, .ro], .tt, [none, none, none], .nbr rfl cI, trivial, ?_⟩ | refine ⟨[.mut, .frz], .int .i64 n, [some (.pb (cRow b j4 h4)), none], c4, trivial, ?_⟩ | refine And.intro (Sim.refl _) (And.intro (Sim.refl _) trivial) | fail)
  rw [inI_f (by rw [e]; omega)] at cI
  by_cases g22 : 1 + k = 22
  · refine ⟨⟨IntKind.wrap .i64 (1 + k), zOpd, zOpd, 0⟩, j1, h1, hj1, ?_⟩
    refine con Try.func102 ?_
    repeat' (first | (exfalso; simp only [e, decide_eq_true_eq, decide_eq_false_iff_not] at h; omega) | refine And.intro (fun (h : _ = true) => ?_) (fun (h : _ = false) => ?_) | refine And.intro (fun (h : _ = false) => ?_) (fun (h : _ = true) => ?_) | refine And.intro (show regOk _ _ = true from by kernel_rfl) ?_ | refine ⟨[.mut, .ro], .int .i64 k, [some (.pb (cRow b j1 h1)), none], c1, trivial, ?_⟩ | refine ⟨[.ro, .ro, .ro], .ff, [none, none, none], .nbr rfl cI, trivial, ?_⟩ | refine And.intro (Sim.refl _) (And.intro (Sim.refl _) trivial) | fail)
  · obtain ⟨n, j4, h4, _, hj4, c4⟩ := spec_l1Int b hb j1 h1 hj1 [0, 1, 2, 255] (by simp) (by simp)
    refine ⟨⟨IntKind.wrap .i64 (1 + k), zOpd, zOpd, n⟩, j4, h4, hj4, ?_⟩
    refine con Try.func102 ?_
    repeat' (first | (exfalso; simp only [e, decide_eq_true_eq, decide_eq_false_iff_not] at h; omega) | refine And.intro (fun (h : _ = true) => ?_) (fun (h : _ = false) => ?_) | refine And.intro (fun (h : _ = false) => ?_) (fun (h : _ = true) => ?_) | refine And.intro (show regOk _ _ = true from by kernel_rfl) ?_ | refine ⟨[.mut, .ro], .int .i64 k, [some (.pb (cRow b j1 h1)), none], c1, trivial, ?_⟩ | refine ⟨[.ro, .ro, .ro], .ff, [none, none, none], .nbr rfl cI, trivial, ?_⟩ | refine ⟨[.mut, .frz], .int .i64 n, [some (.pb (cRow b j4 h4)), none], c4, trivial, ?_⟩ | refine And.intro (Sim.refl _) (And.intro (Sim.refl _) trivial) | fail)
def WStep (b : List UInt8) (s t : List Int × Nat × Int) : Prop :=
  (∃ j1 h1 w, Con 56 [.pb (cRow b s.2.1 s.2.2), .int .i64 8] (.bool true) [some (.pb (cRow b j1 h1)), none] ∧ Con 79 [.pb (cRow b j1 h1)] (.int .i64 w) [some (.pb (cRow b t.2.1 t.2.2))] ∧ t.1 = s.1 ++ [w]) ∨
  (∃ j1 h1 x, Con 56 [.pb (cRow b s.2.1 s.2.2), .int .i64 8] (.bool false) [some (.pb (cRow b j1 h1)), none] ∧ Con 102 [.pb (cRow b j1 h1)] (.agg (GIns.ro x)) [some (.pb (cRow b t.2.1 t.2.2))] ∧ t.1 = s.1 ++ encS x)
theorem WStep.ex (b : List UInt8) (hb : b.length ≤ 1099511627776) (l : List Int) (j : Nat) (h : Int) (hj : j ≤ b.length) : ∃ ws j' h', WStep b (l, j, h) (l ++ ws, j', h') ∧ wordsP ws ∧ ws.length ≤ 3 ∧ j' ≤ b.length := by
  obtain ⟨x, j1, h1, hj1, c1⟩ := spec_l1Once b hb j h hj 8 (by decide)
  cases x with
  | true =>
    obtain ⟨w, j2, h2, hw, hj2, c2⟩ := spec_l1Word b hb j1 h1 hj1
    exact ⟨[w], j2, h2, .inl ⟨j1, h1, w, c1, c2, rfl⟩, fun y hy => by rw [List.mem_singleton.1 hy]; exact hw, by simp, hj2⟩
  | false =>
    obtain ⟨y, j2, h2, hj2, c2⟩ := spec_l3Draw b hb j1 h1 hj1
    exact ⟨encS y, j2, h2, .inr ⟨j1, h1, y, c1, c2, rfl⟩, (encS_words y).1, (encS_words y).2, hj2⟩
theorem wordsP_app {a b : List Int} (ha : wordsP a) (hb : wordsP b) : wordsP (a ++ b) := fun x hx => (List.mem_append.1 hx).elim (ha x) (hb x)
theorem WRun.ex (b : List UInt8) (hb : b.length ≤ 1099511627776) (k : Nat) (j : Nat) (h : Int) (hj : j ≤ b.length) : ∃ t : List Int × Nat × Int, Runs (WStep b) k ([], j, h) t ∧ wordsP t.1 ∧ t.1.length ≤ 3 * k ∧ t.2.1 ≤ b.length := by
  obtain ⟨t, h1, h2⟩ := runs_ex (step := WStep b) (Q := fun n s => wordsP s.1 ∧ s.1.length + 3 * n ≤ 3 * k ∧ s.2.1 ≤ b.length) (fun n s q => by
    obtain ⟨ws, j', h', s1, s2, s3, s4⟩ := WStep.ex b hb s.1 s.2.1 s.2.2 q.2.2
    exact ⟨_, s1, wordsP_app q.1 s2, by have := q.2.1; simp; omega, s4⟩) k ([], j, h) ⟨fun x hx => (by cases hx), by simp, hj⟩
  exact ⟨t, h1, h2.1, by have := h2.2.1; omega, h2.2.2⟩
theorem int_cat (a b : List Int) : GInt.ows a ++ GInt.ows b = GInt.ows (a ++ b) := (List.map_append ..).symm
theorem spec_l4Words (b : List UInt8) (hb : b.length ≤ 1099511627776) (i : Nat) (h : Int) (hi : i ≤ b.length) (n : Int) (hn : 0 < n ∧ n ≤ 100) : ∃ (l : List Int) (j : Nat) (h' : Int), wordsP l ∧ (l.length : Int) ≤ 3 * n ∧ j ≤ b.length ∧ Con 81 [.pb (cRow b i h), .int .i64 n] (.ow 1 (GInt.ows l)) [some (.pb (cRow b j h')), none] := by
  obtain ⟨k, j1, h1, hk, hj1, c1⟩ := spec_l1Below b hb i h hi n (by omega)
  obtain ⟨k, rfl⟩ : ∃ m : Nat, k = m := ⟨k.toNat, by omega⟩
  obtain ⟨⟨l, j, h'⟩, hr, h2, h3, h4⟩ := WRun.ex b hb k j1 h1 hj1
  dsimp only at h2 h3 h4
  refine ⟨l, j, h', h2, by omega, h4, ?_⟩
  refine con Try.func81 ?_
  refine ⟨[.mut, .ro], .int .i64 k, [some (.pb (cRow b j1 h1)), none], c1, trivial, ?_⟩
  refine ⟨{ p : Nat × (List Int × Nat × Int) // p.1 < 100 ∧ p.2.1.length + 3 * p.1 ≤ 300 ∧ Runs (WStep b) p.1 p.2 (l, j, h') }, fun p => ⟨[(0, .ptr 0 0 0), (5, .own 1), (6, .int .i64 p.1.1)], [(0, .box (cRow b p.1.2.2.1 p.1.2.2.2) []), (1, .rows 1 (GInt.ows p.1.2.1) [])]⟩, fun p => p.1.1, ⟨(k, ([], j1, h1)), by omega, by simp; omega, hr⟩, ?_, ?_⟩
  · exact (by (repeat' (first | exact trivial | (refine And.intro (congrArg (AV.int .i64) (w64 ?_ ?_)) ?_; omega; omega) | refine And.intro rfl ?_ | refine And.intro (SimRows.refl _) ?_ | (refine And.intro (SimRows.of_eq ?_) ?_; (first | assumption | rfl)) | (refine And.intro (congrArg (AV.int .i64) ?_) ?_; (first | assumption | omega)) | fail)); done)
  · rintro ⟨⟨n1, l1, j2, h2'⟩, hn1, hl1, hr⟩
    dsimp only at hn1 hl1 hr ⊢
    refine ⟨fun h => ?_, fun h => ?_⟩ <;> simp only [decide_eq_true_eq, decide_eq_false_iff_not] at h
    · obtain ⟨n1, rfl⟩ : ∃ m, n1 = m + 1 := ⟨n1 - 1, by omega⟩
      obtain ⟨⟨l2, j3, h3'⟩, hs, hr⟩ := hr
      have e : IntKind.wrap .i64 (((n1 + 1 : Nat) : Int) - 1) = (n1 : Int) := by rw [w64 (by omega) (by omega)]; omega
      rcases hs with ⟨j4, h4', w, d1, d2, d3⟩ | ⟨j4, h4', x, d1, d2, d3⟩ <;> dsimp only at d1 d2 d3 <;> subst d3
      · refine ⟨[.mut, .ro], .tt, [some (.pb (cRow b j4 h4')), none], .nbr rfl d1, trivial, [.mut], .int .i64 w, [some (.pb (cRow b j3 h3'))], d2, trivial, trivial, ?_, ⟨⟨trivial, trivial⟩, trivial⟩, ?_⟩
        · show ((GInt.ows l1).length + 1) * 8 ≤ _
          simp; omega
        · refine ⟨⟨(n1, (l1 ++ [w], j3, h3')), by dsimp only; omega, by simp; omega, hr⟩, Nat.lt_succ_self _, rfl, rfl, congrArg (AV.int .i64) e, SimRows.refl _, rfl, SimRows.of_eq (int_cat l1 [w]), trivial⟩
      · have c5 := spec_Encode x
        have h35 := (encS_words x).2
        refine ⟨[.mut, .ro], .ff, [some (.pb (cRow b j4 h4')), none], .nbr rfl d1, trivial, [.mut], .agg (GIns.ro x), [some (.pb (cRow b j3 h3'))], d2, trivial, [.ro], .ow 1 (GInt.ows (encS x)), [none], c5, trivial, trivial, ?_, int_plain _, ?_⟩
        · show ((GInt.ows l1).length + (GInt.ows (encS x)).length) * 8 ≤ _
          simp; omega
        · refine ⟨⟨(n1, (l1 ++ encS x, j3, h3')), by dsimp only; omega, by simp; omega, hr⟩, Nat.lt_succ_self _, rfl, rfl, congrArg (AV.int .i64) e, SimRows.refl _, rfl, SimRows.of_eq (int_cat l1 (encS x)), trivial⟩
    · have h0 : n1 = 0 := by omega
      subst h0
      injection hr with hr1 hr2
      injection hr2 with hr2 hr3
      subst hr1; subst hr2; subst hr3
      exact ⟨.refl _, .refl _, trivial⟩
end Go.Proofs.VI
