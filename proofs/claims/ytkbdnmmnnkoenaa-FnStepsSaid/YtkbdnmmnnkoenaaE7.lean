/- Contracts of functions, and what they rest on: l08steps. -/
import Derived.Test.YtkbdnmmnnkoenaaE6
import Derived.Test.YtkbdnmmnnkoenaaM17
set_option linter.unusedVariables false
set_option linter.unusedSimpArgs false
set_option maxRecDepth 10000
set_option maxHeartbeats 4000000
namespace Go.Proofs.VI
open Go
theorem spec_DrawStep (b : List UInt8) (hb : b.length ≤ 1099511627776) : ∃ m : GMach, GMach.fit m ∧ Con 28 [.ro 1 (GByte.ros b)] (.agg (GMach.ow m)) [none] := by
  obtain ⟨h0, c0⟩ := spec_l1New b hb
  obtain ⟨m, j1, h1, hm, _, _, hj1, c1⟩ := spec_l5Draw b hb 0 h0 (Nat.zero_le _)
  obtain ⟨k, j2, h2, hk, hj2, c2⟩ := spec_l1Below b hb j1 h1 hj1 4 (by decide)
  obtain ⟨k, rfl⟩ : ∃ m : Nat, k = m := ⟨k.toNat, by omega⟩
  obtain ⟨x, j3, h3, hj3, c3⟩ := spec_l1Once b hb j2 h2 hj2 12 (by decide)
  have main : ∀ (mf : GMach) (hmf : (x = false ∧ mf = iterS k m) ∨ (x = true ∧ ∃ j4 h4, Con 57 [.pb (cRow b j3 h3)] (.agg (GMach.ow mf)) [some (.pb (cRow b j4 h4))])), Con 28 [.ro 1 (GByte.ros b)] (.agg (GMach.ow mf)) [none] := fun mf hmf => by
    refine con Try.func28 ?_
    refine ⟨[.ro], .pb (cRow b 0 h0), [none], c0, ?nr, [.mut], .agg (GMach.ow m), [some (.pb (cRow b j1 h1))], c1, trivial, [.mut, .ro], .int .i64 k, [some (.pb (cRow b j2 h2)), none], c2, trivial, ?_⟩
    case nr => exact trivial
    refine ⟨{ p : Nat × Nat // p.1 + p.2 = k }, fun p => ⟨[(2, .ptr 0 0 0), (3, .ptr 1 0 0), (4, .ptr 2 0 0), (5, .int .i64 p.1.1)], [(0, .box [.nils, .nils, .ff, .ff, .ff, .ff, .nils, .nils, .int .i64 0] []), (1, .box (cRow b j2 h2) []), (2, .box (GMach.ow (iterS p.1.2 m)) [])]⟩, fun p => p.1.1, ⟨(k, 0), rfl⟩, ?_, ?_⟩
    · exact (by (repeat' (first | exact trivial | (refine And.intro (congrArg (AV.int .i64) (w64 ?_ ?_)) ?_; omega; omega) | refine And.intro rfl ?_ | refine And.intro (SimRows.refl _) ?_ | (refine And.intro (SimRows.of_eq ?_) ?_; (first | assumption | rfl)) | (refine And.intro (congrArg (AV.int .i64) ?_) ?_; (first | assumption | omega)) | fail)); done)
    · rintro ⟨⟨n, q⟩, hnq⟩
      dsimp only at hnq ⊢
      refine ⟨fun h => ?_, fun h => ?_⟩ <;> simp only [decide_eq_true_eq, decide_eq_false_iff_not] at h
      · obtain ⟨n, rfl⟩ : ∃ m, n = m + 1 := ⟨n - 1, by omega⟩
        have e : IntKind.wrap .i64 (((n + 1 : Nat) : Int) - 1) = (n : Int) := by rw [w64 (by omega) (by omega)]; omega
        refine ⟨[.ro], .agg (GMach.ow (stepE (iterS q m))), [none], (by rw [mach_toRo]; exact spec_Step _ (iterS_right hm q).fit), ⟨GMach.noRo_ow _, trivial⟩, ?_⟩
        exact ⟨⟨(n, q + 1), by dsimp only; omega⟩, Nat.lt_succ_self _, rfl, rfl, rfl, rfl, rfl, rfl, congrArg (AV.int .i64) e, .refl _, .refl _, .refl _, trivial⟩
      · have h0 : n = 0 := by omega
        subst h0
        have hq : q = k := by omega
        subst hq
        rcases hmf with ⟨rfl, rfl⟩ | ⟨rfl, j4, h4, c4⟩
        · refine ⟨[.mut, .ro], .ff, [some (.pb (cRow b j3 h3)), none], .nbr rfl c3, trivial, ?_⟩
          exact ⟨.refl _, trivial⟩
        · refine ⟨[.mut, .ro], .tt, [some (.pb (cRow b j3 h3)), none], .nbr rfl c3, trivial, [.mut], .agg (GMach.ow mf), [some (.pb (cRow b j4 h4))], c4, trivial, ?_⟩
          exact ⟨.refl _, trivial⟩
  cases x with
  | false => exact ⟨iterS k m, (iterS_right hm k).fit, main _ (.inl ⟨rfl, rfl⟩)⟩
  | true =>
    obtain ⟨mf, j4, h4, fm, _, c4⟩ := spec_l5Any b hb j3 h3 hj3
    exact ⟨mf, fm, main _ (.inr ⟨rfl, j4, h4, c4⟩)⟩
theorem laws_sameInts (l : List Int) (hl : l.length ≤ 1099511627776) : Con 58 [.ro 1 (GInt.ros l), .ro 1 (GInt.ros l)] (.bool true) [none, none] := by
  have hlen : (GInt.ros l).length = l.length := by simp
  refine con Try.func58 ?_
  refine ⟨fun h => absurd h (by simp), fun _ => ?_⟩
  refine ⟨{ i : Nat // i ≤ l.length }, fun i => ⟨[(0, .ro 1 (GInt.ros l)), (1, .ro 1 (GInt.ros l)), (5, .int .i64 i.1)], []⟩, fun i => l.length - i.1, ⟨0, Nat.zero_le _⟩, ?_, ?_⟩
  · exact ⟨rfl, rfl, rfl, trivial⟩
  · rintro ⟨i, hi⟩
    dsimp only
    refine ⟨fun h => ?_, fun h => ⟨.refl _, trivial⟩⟩
    simp only [decide_eq_true_eq, hlen] at h
    have hi : i < l.length := by omega
    exact ⟨Int.natCast_nonneg _, _, int_row hi, Int.natCast_nonneg _, _, int_row hi, by kernel_rfl, fun h => absurd h (by simp), fun _ => ⟨⟨i + 1, hi⟩, Nat.sub_succ_lt_self _ _ hi, rfl, rfl, congrArg (AV.int .i64) (w64 (by omega) (by omega)), trivial⟩⟩
theorem laws_sameMach (m : GMach) (fm : GMach.fit m) : Con 29 [.agg (GMach.ro m), .agg (GMach.ro m)] (.bool true) [none, none] := by
  obtain ⟨f1, f2, f3, f4⟩ := GMach.fit_un fm
  have c1 := laws_sameInts m.mem f1.1
  have c2 := laws_sameInts m.r f2.1
  have c3 := laws_sameInts m.inp f3.1
  have c4 := laws_sameInts m.out f4.1
  refine con Try.func29 ?_
  repeat' (first | (exfalso; simp at h; done) | refine And.intro (fun (h : _ = true) => ?_) (fun (h : _ = false) => ?_) | refine And.intro (fun (h : _ = false) => ?_) (fun (h : _ = true) => ?_) | refine And.intro (show regOk _ _ = true from by kernel_rfl) ?_ | refine And.intro (Sim.of_eq (congrArg AV.bool ?_)) trivial | refine ⟨[.ro, .ro], .tt, [none, none], .nbr rfl c1, trivial, ?_⟩ | refine ⟨[.ro, .ro], .tt, [none, none], .nbr rfl c2, trivial, ?_⟩ | refine ⟨[.ro, .ro], .tt, [none, none], .nbr rfl c3, trivial, ?_⟩ | refine ⟨[.ro, .ro], .tt, [none, none], .nbr rfl c4, trivial, ?_⟩ | fail)
  all_goals simp
structure Keep (m m' : GMach) : Prop where
  st : m'.stop = m.stop
  ou : m'.out = m.out
  ip : m'.inp = m.inp
theorem Keep.rfl' (m : GMach) : Keep m m := ⟨rfl, rfl, rfl⟩
theorem Keep.tr {a b c : GMach} (h : Keep a b) (k : Keep b c) : Keep a c := ⟨k.st.trans h.st, k.ou.trans h.ou, k.ip.trans h.ip⟩
theorem keep_write {m m' : GMach} {a v : Int} (h : writeV m a v = some m') : Keep m m' := by
  unfold writeV at h
  split at h
  · injection h with h; subst h; exact ⟨rfl, rfl, rfl⟩
  · cases h
theorem keep_sto {m m' : GMach} {p : GPlace} {v : Int} (h : stoV m p v = some m') : Keep m m' := by
  unfold stoV at h
  split at h
  · exact keep_write h
  · injection h with h; subst h; exact ⟨rfl, rfl, rfl⟩
theorem keep_fetch {m m' : GMach} {n : Int} (h : fetchV m = some (n, m')) : Keep m m' := by
  unfold fetchV at h
  split at h
  · injection h with h; injection h with _ h; subst h; exact ⟨rfl, rfl, rfl⟩
  · cases h
theorem keep_at (m : GMach) (o : GOpd) : Keep m (atS m o).2.2 := by
  unfold atS
  split
  · exact .rfl' _
  split
  · exact ⟨rfl, rfl, rfl⟩
  split
  · exact ⟨rfl, rfl, rfl⟩
  split
  · rename_i n m' h; exact keep_fetch h
  · exact .rfl' _
theorem keep_place {m m' : GMach} {o : GOpd} {p : GPlace} (h : placeV m o = some (p, m')) : Keep m m' := by
  have ka := keep_at m o
  unfold placeV at h
  split at h
  · injection h with h; injection h with _ h; subst h; exact .rfl' _
  · split at h
    · cases h
    · rename_i a m1 he
      rw [he] at ka
      cases hi : indir o with
      | true =>
        rw [hi, cond_true] at h
        split at h
        · injection h with h; injection h with _ h; subst h; exact ka
        · cases h
      | false =>
        rw [hi, cond_false] at h
        injection h with h; injection h with _ h; subst h; exact ka
theorem keep_dbl {m m' : GMach} {op x : Int} {p : GPlace} (h : dblV m op x p = some m') : Keep m m' := by
  unfold dblV at h
  split at h
  · exact (⟨rfl, rfl, rfl⟩ : Keep m { nzM m x with v := false }).tr (keep_sto h)
  · split at h
    · cases h
    · split at h
      · injection h with h; subst h; exact ⟨rfl, rfl, rfl⟩
      · exact (⟨rfl, rfl, rfl⟩ : Keep m (dblM m _ _ _)).tr (keep_sto h)
theorem keep_sgl {m m' : GMach} {op : Int} {p : GPlace} (h : sglV m op p = some m') : Keep m m' := by
  unfold sglV at h
  split at h
  · cases h
  · split at h
    · injection h with h; subst h; exact ⟨rfl, rfl, rfl⟩
    · have k := keep_sto h
      exact ⟨k.st, k.ou, k.ip⟩
theorem keep_go {m m' : GMach} {p : GPlace} {n : Int} (h : goV m p n = some m') : Keep m m' := by
  unfold goV at h
  split at h
  · cases h
  · split at h
    · split at h
      · cases h
      · rename_i m2 hs
        injection h with h; subst h
        have k := keep_sto hs
        exact ⟨k.st, k.ou, k.ip⟩
    · injection h with h; subst h; exact ⟨rfl, rfl, rfl⟩
theorem keep_ret {m m' : GMach} {n : Int} (h : retV m n = some m') : Keep m m' := by
  unfold retV at h
  split at h
  · cases h
  · injection h with h; subst h; exact ⟨rfl, rfl, rfl⟩
theorem keep_do {m m' : GMach} {i : GIns} (h : doV m i = some m') : (m'.stop = m.stop ∨ m'.stop = 1) ∧ m.out.length ≤ m'.out.length ∧ m'.inp.length ≤ m.inp.length := by
  have of : Keep m m' → (m'.stop = m.stop ∨ m'.stop = 1) ∧ m.out.length ≤ m'.out.length ∧ m'.inp.length ≤ m.inp.length := fun k => ⟨.inl k.st, by rw [k.ou]; exact Nat.le_refl _, by rw [k.ip]; exact Nat.le_refl _⟩
  unfold doV at h
  split at h
  · split at h
    · cases h
    · rename_i p m1 hp
      split at h
      · cases h
      · split at h
        · cases h
        · rename_i q m2 hq
          exact of (((keep_place hp).tr (keep_place hq)).tr (keep_dbl h))
  · split at h
    · split at h
      · cases h
      · rename_i q m1 hq
        split at h
        · exact of ((keep_place hq).tr (keep_go h))
        · exact of ((keep_place hq).tr (keep_sgl h))
    · split at h
      · exact of (keep_ret h)
      · split at h
        · injection h with h; subst h
          refine of ?_
          cases goesV m i.op with
          | true => exact ⟨rfl, rfl, rfl⟩
          | false => exact .rfl' _
        · split at h
          · injection h with h; subst h
            exact ⟨.inr rfl, Nat.le_refl _, Nat.le_refl _⟩
          · unfold emtV at h
            split at h
            · split at h
              · injection h with h; subst h
                exact ⟨.inl rfl, by simp, Nat.le_refl _⟩
              · cases h
            · split at h
              · split at h
                · injection h with h; subst h
                  exact ⟨.inl rfl, Nat.le_refl _, Nat.le_refl _⟩
                · rename_i x t ht
                  injection h with h; subst h
                  exact ⟨.inl rfl, Nat.le_refl _, by show t.length ≤ m.inp.length; rw [ht]; simp⟩
              · cases h
theorem step_keeps {m : GMach} (hs : m.stop = 0) : stepV m = { m with stop := 2 } ∨ ((stepV m).stop ≠ 2 ∧ m.out.length ≤ (stepV m).out.length ∧ (stepV m).inp.length ≤ m.inp.length) := by
  unfold stepV
  split
  · split
    · exact .inl rfl
    · split
      · exact .inl rfl
      · rename_i x _ m' hd
        obtain ⟨h1, h2, h3⟩ := keep_do hd
        have h0 : (nextM m).stop = 0 := hs
        exact .inr ⟨by omega, h2, h3⟩
  · exact .inl rfl
end Go.Proofs.VI
