/- Contracts of functions, and what they rest on: l08draw2. -/
import Derived.Test.YtkbdnmmnnkoenaaE4
import Derived.Test.YtkbdnmmnnkoenaaE2
import Derived.Test.YtkbdnmmnnkoenaaM7
set_option linter.unusedVariables false
set_option linter.unusedSimpArgs false
set_option maxRecDepth 10000
set_option maxHeartbeats 4000000
namespace Go.Proofs.VI
open Go
theorem rowsM (m : GMach) (mem r : List (List AV)) (m' : GMach) (h1 : mem = GInt.ros m'.mem) (h2 : r = GInt.ros m'.r) (he : m' = { m with mem := m'.mem, r := m'.r }) : SimRows [[AV.ow 1 mem, .ow 1 r, .bool m.n, .bool m.z, .bool m.v, .bool m.c, .ow 1 (GInt.ows m.inp), .ow 1 (GInt.ows m.out), .int .i64 m.stop]] [GMach.ow m'] :=
  SimRows.of_eq (congrArg (fun x => [x]) (mach_ow m mem r m' h1 h2 he))
theorem ros_set (l : List Int) (i : Nat) (v : Int) : (GInt.ros l).set i [AV.int .i64 v] = GInt.ros (l.set i v) := by rw [GInt.ros_eq, GInt.ros_eq, List.map_set]; rfl
def IStep (b : List UInt8) (s t : List Int × Nat × Int) : Prop := ∃ w, Con 79 [.pb (cRow b s.2.1 s.2.2)] (.int .i64 w) [some (.pb (cRow b t.2.1 t.2.2))] ∧ t.1 = s.1 ++ [w]
theorem IRun.ex (b : List UInt8) (hb : b.length ≤ 1099511627776) (k : Nat) (j : Nat) (h : Int) (hj : j ≤ b.length) : ∃ t : List Int × Nat × Int, Runs (IStep b) k ([], j, h) t ∧ wordsP t.1 ∧ t.1.length ≤ k ∧ t.2.1 ≤ b.length := by
  obtain ⟨t, h1, h2⟩ := runs_ex (step := IStep b) (Q := fun n s => wordsP s.1 ∧ s.1.length + n ≤ k ∧ s.2.1 ≤ b.length) (fun n s q => by
    obtain ⟨w, j', h', hw, hj', c⟩ := spec_l1Word b hb s.2.1 s.2.2 q.2.2
    exact ⟨(s.1 ++ [w], j', h'), ⟨w, c, rfl⟩, wordsP_app q.1 (fun y hy => by rw [List.mem_singleton.1 hy]; exact hw), by have := q.2.1; simp; omega, hj'⟩) k ([], j, h) ⟨fun x hx => (by cases hx), by simp, hj⟩
  exact ⟨t, h1, h2.1, by have := h2.2.1; omega, h2.2.2⟩
def RStep (b : List UInt8) (s t : Nat × List Int × Nat × Int) : Prop := ∃ x j1 h1 y, Con 55 [.pb (cRow b s.2.2.1 s.2.2.2), .int .i64 256] (.int .i64 x) [some (.pb (cRow b j1 h1)), none] ∧
  Con 82 [.pb (cRow b j1 h1), .ro 1 (GInt.ros [0, 2, 100, 200, 510, 3, IntKind.wrap .i64 (x * 2)])] (.int .i64 y) [some (.pb (cRow b t.2.2.1 t.2.2.2)), none] ∧ t.2.1 = s.2.1.set s.1 y ∧ t.1 = s.1 + 1
theorem RRun.ex (b : List UInt8) (hb : b.length ≤ 1099511627776) (r : List Int) (hr : wordsP r) (j : Nat) (h : Int) (hj : j ≤ b.length) : ∃ t : List Int × Nat × Int, Runs (RStep b) 6 (0, r, j, h) (6, t) ∧ wordsP t.1 ∧ t.1.length = r.length ∧ t.2.1 ≤ b.length := by
  obtain ⟨t, h1, h2⟩ := runs_ex (step := RStep b) (Q := fun n s => s.1 + n = 6 ∧ wordsP s.2.1 ∧ s.2.1.length = r.length ∧ s.2.2.1 ≤ b.length) (fun n s q => by
    obtain ⟨x, j1, h1, hx, hj1, c1⟩ := spec_l1Below b hb s.2.2.1 s.2.2.2 q.2.2.2 256 (by decide)
    obtain ⟨y, j2, h2, hy, hj2, c2⟩ := spec_l1Int b hb j1 h1 hj1 [0, 2, 100, 200, 510, 3, IntKind.wrap .i64 (x * 2)] (by simp) (by simp)
    have hy : 0 ≤ y ∧ y ≤ 65535 := by
      rw [w64 (by omega) (by omega)] at hy
      simp only [List.mem_cons, List.not_mem_nil, or_false] at hy
      omega
    exact ⟨(s.1 + 1, s.2.1.set s.1 y, j2, h2), ⟨x, j1, h1, y, c1, c2, rfl, rfl⟩, by have := q.1; dsimp only; omega, wordsP_set q.2.1 _ hy, by simp [q.2.2.1], hj2⟩) 6 (0, r, j, h) ⟨rfl, hr, rfl, hj⟩
  obtain ⟨t0, t1⟩ := t
  have e : t0 = 6 := by have := h2.1; dsimp only at this; omega
  subst e
  exact ⟨t1, h1, h2.2.1, h2.2.2.1, h2.2.2.2⟩
def MStep (b : List UInt8) (s t : List Int × Nat × Int) : Prop := ∃ (a : Nat) (j1 : Nat) (h1 : Int) (v : Int) (j2 : Nat) (h2 : Int) (c : Nat) (j3 : Nat) (h3 w : Int), a < 32 ∧ c < 60 ∧
  Con 55 [.pb (cRow b s.2.1 s.2.2), .int .i64 32] (.int .i64 a) [some (.pb (cRow b j1 h1)), none] ∧
  Con 82 [.pb (cRow b j1 h1), .ro 1 (GInt.ros [0, 2, 100, 64, 65535])] (.int .i64 v) [some (.pb (cRow b j2 h2)), none] ∧
  Con 55 [.pb (cRow b j2 h2), .int .i64 60] (.int .i64 c) [some (.pb (cRow b j3 h3)), none] ∧
  Con 79 [.pb (cRow b j3 h3)] (.int .i64 w) [some (.pb (cRow b t.2.1 t.2.2))] ∧ t.1 = (s.1.set a v).set (80 + c) w
theorem MRun.ex (b : List UInt8) (hb : b.length ≤ 1099511627776) (k : Nat) (r : List Int) (hr : wordsP r) (j : Nat) (h : Int) (hj : j ≤ b.length) : ∃ t : List Int × Nat × Int, Runs (MStep b) k (r, j, h) t ∧ wordsP t.1 ∧ t.1.length = r.length ∧ t.2.1 ≤ b.length :=
  runs_ex (step := MStep b) (Q := fun n s => wordsP s.1 ∧ s.1.length = r.length ∧ s.2.1 ≤ b.length) (fun n s q => by
    obtain ⟨x, j1, h1, hx, hj1, c1⟩ := spec_l1Below b hb s.2.1 s.2.2 q.2.2 32 (by decide)
    obtain ⟨v, j2, h2, hv, hj2, c2⟩ := spec_l1Int b hb j1 h1 hj1 [0, 2, 100, 64, 65535] (by simp) (by simp)
    obtain ⟨y, j3, h3, hy, hj3, c3⟩ := spec_l1Below b hb j2 h2 hj2 60 (by decide)
    obtain ⟨w, j4, h4, hw, hj4, c4⟩ := spec_l1Word b hb j3 h3 hj3
    obtain ⟨a, rfl⟩ : ∃ m : Nat, x = m := ⟨x.toNat, by omega⟩
    obtain ⟨c, rfl⟩ : ∃ m : Nat, y = m := ⟨y.toNat, by omega⟩
    have hv : 0 ≤ v ∧ v ≤ 65535 := by
      simp only [List.mem_cons, List.not_mem_nil, or_false] at hv
      omega
    exact ⟨((s.1.set a v).set (80 + c) w, j4, h4), ⟨a, j1, h1, v, j2, h2, c, j3, h3, w, by omega, by omega, c1, c2, c3, c4, rfl⟩, wordsP_set (wordsP_set q.1 _ hv) _ hw, by simp [q.2.1], hj4⟩) k (r, j, h) ⟨hr, rfl, hj⟩
def preDraw (i : Nat) : Option (Nat × TypeId) := bif Nat.beq i 10 || (Nat.beq i 11 || (Nat.beq i 18 || Nat.beq i 19)) then some (5, 32) else none
theorem spec_l5Draw (b : List UInt8) (hb : b.length ≤ 1099511627776) (i : Nat) (h : Int) (hi : i ≤ b.length) : ∃ (m : GMach) (j : Nat) (h' : Int), RightM m ∧ m.stop = 0 ∧ m.out = [] ∧ j ≤ b.length ∧ Con 54 [.pb (cRow b i h)] (.agg (GMach.ow m)) [some (.pb (cRow b j h'))] := by
  obtain ⟨k, j1, h1, hk, hj1, c1⟩ := spec_l1Below b hb i h hi 4 (by decide)
  obtain ⟨k, rfl⟩ : ∃ m : Nat, k = m := ⟨k.toNat, by omega⟩
  obtain ⟨⟨inp, j2, h2⟩, rI, wI, lI, hj2⟩ := IRun.ex b hb k j1 h1 hj1
  dsimp only at wI lI hj2
  obtain ⟨im, j3, h3, wW, lW, hj3, c3⟩ := spec_l4Words b hb j2 h2 hj2 12 (by decide)
  have cN := spec_MachNew im 32 64 inp (by omega) (by decide) wW (by decide) wI (by omega)
  have hm0 := newM_right im 32 64 inp (by omega) wW (by decide) wI (by omega)
  obtain ⟨⟨r, j4, h4⟩, rR, wR, lR, hj4⟩ := RRun.ex b hb (newM im 32 64 inp).r hm0.wr j3 h3 hj3
  dsimp only at wR lR hj4
  have lR : r.length = 8 := lR
  obtain ⟨x5, j5, h5, hx5, hj5, c5⟩ := spec_l1Int b hb j4 h4 hj4 [512, 500, 400] (by simp) (by simp)
  have hx5 : 0 ≤ x5 ∧ x5 ≤ 65535 := by
    simp only [List.mem_cons, List.not_mem_nil, or_false] at hx5
    omega
  obtain ⟨bn, j6, h6, hj6, c6⟩ := spec_l1Once b hb j5 h5 hj5 2 (by decide)
  obtain ⟨bz, j7, h7, hj7, c7⟩ := spec_l1Once b hb j6 h6 hj6 2 (by decide)
  obtain ⟨bc, j8, h8, hj8, c8⟩ := spec_l1Once b hb j7 h7 hj7 2 (by decide)
  obtain ⟨⟨mem, j9, h9⟩, rM, wM, lM, hj9⟩ := MRun.ex b hb 8 (newMem im 32) hm0.wm j8 h8 hj8
  dsimp only at wM lM hj9
  have lM : mem.length = 256 := lM.trans (newMem_len im 32 (by omega))
  refine ⟨⟨mem, r.set 6 x5, bn, bz, false, bc, inp, [], 0⟩, j9, h9, ⟨lM, by simp [lR], by show inp.length ≤ 50; omega, by simp, wM, wordsP_set wR _ hx5, wI, fun x hx => (by cases hx), (⟨by decide, by decide⟩ : (0 : Int) ≤ 0 ∧ (0 : Int) ≤ 2)⟩, rfl, rfl, hj9, ?_⟩
  have lim : ((im.length : Nat) : Int) ≤ 36 := lW
  refine conI [] preDraw (fun _ => false) Try.func54 (fun _ h => by cases h) ?_
  refine ⟨[.mut, .ro], .int .i64 k, [some (.pb (cRow b j1 h1)), none], c1, trivial, ?_⟩
  refine ⟨{ p : Nat × (List Int × Nat × Int) // p.1 < 100 ∧ p.2.1.length ≤ 100 ∧ Runs (IStep b) p.1 p.2 (inp, j2, h2) ∧ p.2.1.length + p.1 ≤ 100 }, fun p => ⟨[(0, .ptr 0 0 0), (2, .ptr 1 0 0), (3, .own 2), (4, .int .i64 p.1.1)], [(0, .box (cRow b p.1.2.2.1 p.1.2.2.2) []), (1, .box [.nils, .nils, .ff, .ff, .ff, .ff, .nils, .nils, .int .i64 0] []), (2, .rows 1 (GInt.ows p.1.2.1) [])]⟩, fun p => p.1.1, ⟨(k, ([], j1, h1)), by dsimp only; omega, by simp, rI, by simp; omega⟩, ?_, ?_⟩
  · exact ⟨rfl, rfl, rfl, rfl, rfl, .refl _, .refl _, rfl, .refl _, trivial⟩
  · rintro ⟨⟨n1, l1, j', h''⟩, hn1, hl1, hr, hln⟩
    dsimp only at hn1 hl1 hr hln ⊢
    refine ⟨fun h => ?_, fun h => ?_⟩ <;> simp only [decide_eq_true_eq, decide_eq_false_iff_not] at h
    · obtain ⟨n1, rfl⟩ : ∃ m, n1 = m + 1 := ⟨n1 - 1, by omega⟩
      obtain ⟨⟨l2, j3', h3'⟩, ⟨w, d1, d2⟩, hr⟩ := hr
      dsimp only at d1 d2
      subst d2
      have e : IntKind.wrap .i64 (((n1 + 1 : Nat) : Int) - 1) = (n1 : Int) := by rw [w64 (by omega) (by omega)]; omega
      refine ⟨[.mut], .int .i64 w, [some (.pb (cRow b j3' h3'))], d1, trivial, trivial, ?_, ⟨⟨trivial, trivial⟩, trivial⟩, ?_⟩
      · show ((GInt.ows l1).length + 1) * 8 ≤ _
        simp; omega
      · exact ⟨⟨(n1, (l1 ++ [w], j3', h3')), by dsimp only; omega, by simp; omega, hr, by simp; omega⟩, Nat.lt_succ_self _, rfl, rfl, rfl, rfl, congrArg (AV.int .i64) e, .refl _, .refl _, rfl, SimRows.of_eq (int_cat l1 [w]), trivial⟩
    · have h0 : n1 = 0 := by omega
      subst h0
      injection hr with hr1 hr2
      injection hr2 with hr2 hr3
      subst hr1; subst hr2; subst hr3
      refine ⟨[.mut, .ro], .ow 1 (GInt.ows im), [some (.pb (cRow b j3 h3)), none], c3, trivial, [.ro, .ro, .ro, .ro], .agg (GMach.ow (newM im 32 64 l1)), [none, none, none, none], (by simp only [GInt.roo]; exact cN), ⟨GMach.noRo_ow _, trivial⟩, ?_⟩
      refine ⟨{ p : Nat × (List Int × Nat × Int) // p.1 ≤ 6 ∧ p.2.1.length = 8 ∧ Runs (RStep b) (6 - p.1) p (6, r, j4, h4) }, fun p => ⟨[(0, .ptr 0 0 0), (2, .ptr 1 0 0), (5, .ptr 2 0 0), (6, .int .i64 p.1.1)], [(0, .box (cRow b p.1.2.2.1 p.1.2.2.2) []), (1, .box [.nils, .nils, .ff, .ff, .ff, .ff, .nils, .nils, .int .i64 0] []), (2, .box (GMach.ow ⟨newMem im 32, p.1.2.1, false, false, false, false, l1, [], 0⟩) [])]⟩, fun p => 6 - p.1.1, ⟨(0, ((newM im 32 64 l1).r, j3, h3)), Nat.zero_le _, rfl, rR⟩, ?_, ?_⟩
      · exact ⟨rfl, rfl, rfl, rfl, rfl, rfl, rfl, .refl _, .refl _, .refl _, trivial⟩
      · rintro ⟨⟨n2, l2, j', h''⟩, hn2, hl2, hr⟩
        dsimp only at hn2 hl2 hr ⊢
        refine ⟨fun h => ?_, fun h => ?_⟩ <;> simp only [decide_eq_true_eq, decide_eq_false_iff_not] at h
        · obtain ⟨q, hq⟩ : ∃ q, 6 - n2 = q + 1 := ⟨5 - n2, by omega⟩
          rw [hq] at hr
          obtain ⟨⟨n3, l3, j3', h3'⟩, ⟨x, ja, ha, y, d1, d2, d3, d4⟩, hr⟩ := hr
          dsimp only at d1 d2 d3 d4
          subst d3; subst d4
          have hq2 : 6 - (n2 + 1) = q := by omega
          have hlt : n2 < l2.length := by omega
          have hrow : (GInt.ros l2)[((n2 : Nat) : Int).toNat]? = some [AV.int .i64 l2[n2]] := by rw [Int.toNat_natCast, map_get _ _ hlt]; rfl
          refine ⟨[.mut, .ro], .int .i64 x, [some (.pb (cRow b ja ha)), none], d1, trivial, [.mut, .frz], .int .i64 y, [some (.pb (cRow b j3' h3')), none], d2, trivial, Int.natCast_nonneg _, (by simp; omega), _, hrow, by kernel_rfl, ?_⟩
          refine ⟨⟨(n2 + 1, l2.set n2 y, j3', h3'), by dsimp only; omega, by simp [hl2], by rw [hq2]; exact hr⟩, by dsimp only; omega, rfl, rfl, rfl, rfl, rfl, rfl, congrArg (AV.int .i64) (w64 (by omega) (by omega)), .refl _, .refl _, ?_, trivial⟩
          exact rowsM ⟨newMem im 32, l2, false, false, false, false, l1, [], 0⟩ _ _ ⟨newMem im 32, l2.set n2 y, false, false, false, false, l1, [], 0⟩ rfl (ros_set l2 n2 y) rfl
        · have h0 : n2 = 6 := by omega
          subst h0
          injection hr with hr0 hr
          injection hr with hr1 hr2
          injection hr2 with hr2 hr3
          subst hr1; subst hr2; subst hr3
          have hrow : (GInt.ros l2)[6]? = some [AV.int .i64 (l2[6]'(by omega))] := map_get l2 6 (by omega)
          refine ⟨[.mut, .frz], .int .i64 x5, [some (.pb (cRow b j5 h5)), none], c5, trivial, by decide, (by simp; omega), _, hrow, by kernel_rfl, ?_⟩
          refine ⟨[.mut, .ro], .bool bn, [some (.pb (cRow b j6 h6)), none], c6, trivial, [.mut, .ro], .bool bz, [some (.pb (cRow b j7 h7)), none], c7, trivial, [.mut, .ro], .bool bc, [some (.pb (cRow b j8 h8)), none], c8, trivial, ?_⟩
          refine ⟨{ p : Nat × (List Int × Nat × Int) // p.1 ≤ 8 ∧ p.2.1.length = 256 ∧ Runs (MStep b) (8 - p.1) p.2 (mem, j9, h9) }, fun p => ⟨[(0, .ptr 0 0 0), (2, .ptr 1 0 0), (5, .ptr 2 0 0), (7, .int .i64 p.1.1)], [(0, .box (cRow b p.1.2.2.1 p.1.2.2.2) []), (1, .box [.nils, .nils, .ff, .ff, .ff, .ff, .nils, .nils, .int .i64 0] []), (2, .box (GMach.ow ⟨p.1.2.1, l2.set 6 x5, bn, bz, false, bc, l1, [], 0⟩) [])]⟩, fun p => 8 - p.1.1, ⟨(0, (newMem im 32, j8, h8)), Nat.zero_le _, newMem_len im 32 (by omega), rM⟩, ?_, ?_⟩
          · refine ⟨rfl, rfl, rfl, rfl, rfl, rfl, rfl, .refl _, .refl _, ?_, trivial⟩
            exact rowsM ⟨newMem im 32, l2, bn, bz, false, bc, l1, [], 0⟩ _ _ ⟨newMem im 32, l2.set 6 x5, bn, bz, false, bc, l1, [], 0⟩ rfl (ros_set l2 6 x5) rfl
          · rintro ⟨⟨n4, l4, j', h''⟩, hn4, hl4, hr⟩
            dsimp only at hn4 hl4 hr ⊢
            refine ⟨fun h => ?_, fun h => ?_⟩ <;> simp only [decide_eq_true_eq, decide_eq_false_iff_not] at h
            · obtain ⟨q, hq⟩ : ∃ q, 8 - n4 = q + 1 := ⟨7 - n4, by omega⟩
              rw [hq] at hr
              obtain ⟨⟨l5, j5', h5'⟩, ⟨a, ja, ha, v, jb, hb', c, jc, hc, w, ra, rc, d1, d2, d3, d4, d5⟩, hr⟩ := hr
              dsimp only at d1 d2 d3 d4 d5
              subst d5
              have hq2 : 8 - (n4 + 1) = q := by omega
              have hlt : a < l4.length := by omega
              have hrow : (GInt.ros l4)[((a : Nat) : Int).toNat]? = some [AV.int .i64 l4[a]] := by rw [Int.toNat_natCast, map_get _ _ hlt]; rfl
              have e80 : IntKind.wrap .i64 (80 + (c : Int)) = ((80 + c : Nat) : Int) := by rw [w64 (by omega) (by omega)]; omega
              have hset : (GInt.ros l4).set ((a : Nat) : Int).toNat [AV.int .i64 v] = GInt.ros (l4.set a v) := by rw [Int.toNat_natCast, GInt.ros_eq, GInt.ros_eq, List.map_set]; rfl
              have hlt2 : 80 + c < (l4.set a v).length := by simp; omega
              have hrow2 : ((GInt.ros l4).set ((a : Nat) : Int).toNat [AV.int .i64 v])[(IntKind.wrap .i64 (80 + (c : Int))).toNat]? = some [AV.int .i64 ((l4.set a v)[80 + c])] := by rw [hset, e80, Int.toNat_natCast, map_get _ _ hlt2]; rfl
              refine ⟨[.mut, .ro], .int .i64 a, [some (.pb (cRow b ja ha)), none], d1, trivial, [.mut, .frz], .int .i64 v, [some (.pb (cRow b jb hb')), none], d2, trivial, Int.natCast_nonneg _, (by simp; omega), _, hrow, by kernel_rfl, ?_⟩
              refine ⟨[.mut, .ro], .int .i64 c, [some (.pb (cRow b jc hc)), none], d3, trivial, [.mut], .int .i64 w, [some (.pb (cRow b j5' h5'))], d4, trivial, (by rw [e80]; exact Int.natCast_nonneg _), (by rw [e80]; simp; omega), _, hrow2, by kernel_rfl, ?_⟩
              refine ⟨⟨(n4 + 1, (l4.set a v).set (80 + c) w, j5', h5'), by dsimp only; omega, by simp [hl4], by rw [hq2]; exact hr⟩, by dsimp only; omega, rfl, rfl, rfl, rfl, rfl, rfl, congrArg (AV.int .i64) (w64 (by omega) (by omega)), .refl _, .refl _, ?_, trivial⟩
              exact rowsM ⟨l4, l2.set 6 x5, bn, bz, false, bc, l1, [], 0⟩ _ _ ⟨(l4.set a v).set (80 + c) w, l2.set 6 x5, bn, bz, false, bc, l1, [], 0⟩ (by rw [hset, e80]; exact ros_set (l4.set a v) (80 + c) w) rfl rfl
            · have h0 : n4 = 8 := by omega
              subst h0
              injection hr with hr1 hr2
              injection hr2 with hr2 hr3
              subst hr1; subst hr2; subst hr3
              exact ⟨.refl _, .refl _, trivial⟩
end Go.Proofs.VI
