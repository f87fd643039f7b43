/- Contracts of functions, and what they rest on: l06place. -/
import Derived.Test.YtkbdnmmnnkoenaaM5
set_option linter.unusedVariables false
set_option linter.unusedSimpArgs false
set_option maxRecDepth 10000
set_option maxHeartbeats 4000000
namespace Go.Proofs.VI
open Go
def indir (o : GOpd) : Bool := decide (o.mode = 3) || decide (o.mode = 5) || decide (o.mode = 7)
def placeV (m : GMach) (o : GOpd) : Option (GPlace × GMach) :=
  if o.mode = 0 then some (⟨o.reg, -1⟩, m) else
  match atS m o with
  | (_, false, _) => none
  | (a, true, m') => bif indir o then (match readV m' a with | some x => some (⟨-1, x⟩, m') | none => none) else some (⟨-1, a⟩, m')
/-- A place that came of an operand. -/
def PlaceR (p : GPlace) : Prop := (0 ≤ p.reg ∧ p.reg ≤ 7 ∧ p.pos = -1) ∨ (p.reg = -1 ∧ 0 ≤ p.pos ∧ p.pos ≤ 65535)
theorem atS_right {m : GMach} {o : GOpd} (h : RightM m) : RightM (atS m o).2.2 ∧ 0 ≤ (atS m o).1 ∧ (atS m o).1 ≤ 65535 := by
  unfold atS
  split
  · exact ⟨h, h.reg _⟩
  · split
    · exact ⟨h.setR _ (wr16_in _), h.reg _⟩
    · split
      · exact ⟨h.setR _ (wr16_in _), wr16_in _⟩
      · split
        · rename_i n m' hf
          exact ⟨(fetchV_right h hf).1, wr16_in _⟩
        · exact ⟨h, wr16_in _⟩
theorem placeV_right {m m' : GMach} {o : GOpd} {p : GPlace} (h : RightM m) (ho : 0 ≤ o.reg ∧ o.reg ≤ 7) (hp : placeV m o = some (p, m')) : RightM m' ∧ PlaceR p := by
  unfold placeV at hp
  have ha := atS_right (o := o) h
  split at hp
  · injection hp with hp
    injection hp with h1 h2
    subst h1 h2
    exact ⟨h, .inl ⟨ho.1, ho.2, rfl⟩⟩
  · split at hp
    · cases hp
    · rename_i a m1 he
      rw [he] at ha
      cases hi : indir o with
      | true =>
        rw [hi] at hp
        simp only [cond_true] at hp
        split at hp
        · rename_i x hx
          injection hp with hp
          injection hp with h1 h2
          subst h1 h2
          exact ⟨ha.1, .inr ⟨rfl, ha.1.read hx⟩⟩
        · cases hp
      | false =>
        rw [hi] at hp
        injection hp with hp
        injection hp with h1 h2
        subst h1 h2
        exact ⟨ha.1, .inr ⟨rfl, ha.2⟩⟩
def PlaceC (f : FuncId) (m : GMach) (o : GOpd) : Prop := ∃ (p : GPlace) (m' : GMach), (∀ x, placeV m o = some x → x = (p, m')) ∧ Con f [.pb (GMach.ow m), .agg (GOpd.ro o)] (.tup [.agg (GPlace.ro p), .bool (placeV m o).isSome]) [some (.pb (GMach.ow m')), none]
theorem PlaceC.some' {f : FuncId} {m m' : GMach} {o : GOpd} {p : GPlace} (h : placeV m o = some (p, m')) (c : Con f [.pb (GMach.ow m), .agg (GOpd.ro o)] (.tup [.agg (GPlace.ro p), .bool true]) [some (.pb (GMach.ow m')), none]) : PlaceC f m o :=
  ⟨p, m', fun x hx => by rw [h] at hx; injection hx with hx; exact hx.symm, by rw [h]; exact c⟩
theorem PlaceC.none' {f : FuncId} {m : GMach} {o : GOpd} (h : placeV m o = none) (p : GPlace) (m' : GMach) (c : Con f [.pb (GMach.ow m), .agg (GOpd.ro o)] (.tup [.agg (GPlace.ro p), .bool false]) [some (.pb (GMach.ow m')), none]) : PlaceC f m o :=
  ⟨p, m', fun x hx => (by rw [h] at hx; cases hx), by rw [h]; exact c⟩
theorem spec_l6Place (m : GMach) (o : GOpd) (hm : RightM m) (ho : 0 ≤ o.reg ∧ o.reg ≤ 7) : PlaceC 93 m o := by
  by_cases h0 : o.mode = 0
  · refine PlaceC.some' (p := ⟨o.reg, -1⟩) (m' := m) (by unfold placeV; rw [if_pos h0]) ?_
    refine con Try.func93 ?_
    exact ⟨fun h => ⟨.refl _, .refl _, trivial⟩, fun h => absurd h0 (by simpa using h)⟩
  · have hp : placeV m o = match atS m o with
      | (_, false, _) => none
      | (a, true, m') => bif indir o then (match readV m' a with | some x => some (⟨-1, x⟩, m') | none => none) else some (⟨-1, a⟩, m') := by
      conv => lhs; unfold placeV
      rw [if_neg h0]
    have c := spec_l6At m o hm ho
    obtain ⟨hm', ha⟩ := atS_right (o := o) hm
    generalize atS m o = q at c hm' ha hp
    obtain ⟨a, ok, m'⟩ := q
    dsimp only at c hm' ha hp
    cases ok with
    | false =>
      refine PlaceC.none' hp ⟨0, 0⟩ m' ?_
      refine con Try.func93 ?_
      refine ⟨fun h => absurd (by simpa using h) h0, fun h => ?_⟩
      exact ⟨[.mut, .ro], .tup [.int .i64 a, .ff], [some (.pb (GMach.ow m')), none], .nbr rfl c, trivial, .refl _, .refl _, trivial⟩
    | true =>
      have cr := spec_ReadW m' a (by rw [hm'.mem]; decide)
      have hind : indir o = (decide (o.mode = 3) || decide (o.mode = 5) || decide (o.mode = 7)) := rfl
      cases hi : indir o with
      | false =>
        simp only [hi, Bool.false_eq, Bool.or_eq_false_iff, decide_eq_false_iff_not] at hind
        refine PlaceC.some' (p := ⟨-1, a⟩) (m' := m') (by rw [hp, hi]; rfl) ?_
        refine con Try.func93 ?_
        refine ⟨fun h => absurd (by simpa using h) h0, fun h => ?_⟩
        refine ⟨[.mut, .ro], .tup [.int .i64 a, .tt], [some (.pb (GMach.ow m')), none], .nbr rfl c, trivial, ?_⟩
        exact ⟨fun _ => ⟨fun _ => ⟨fun h => absurd (by simpa using h) hind.2, fun _ => ⟨.refl _, .refl _, trivial⟩⟩, fun h => absurd (by simpa using h) hind.1.2⟩, fun h => absurd (by simpa using h) hind.1.1⟩
      | true =>
        simp only [hi, Bool.true_eq, Bool.or_eq_true, decide_eq_true_eq] at hind
        cases hr : readV m' a with
        | none =>
          rw [hr] at cr
          refine PlaceC.none' (by rw [hp, hi]; simp only [hr, cond_true]) ⟨0, 0⟩ m' ?_
          refine con Try.func93 ?_
          refine ⟨fun h => absurd (by simpa using h) h0, fun h => ?_⟩
          refine ⟨[.mut, .ro], .tup [.int .i64 a, .tt], [some (.pb (GMach.ow m')), none], .nbr rfl c, trivial, ?_⟩
          have c2 : Con 75 [.agg (GMach.ro m'), .int .i64 a] (.tup [.int .i64 0, .ff]) [none, none] := .nbr rfl cr
          refine ⟨fun h3 => ⟨fun h5 => ⟨fun _ => ?_, fun h7 => False.elim ?_⟩, fun _ => ?_⟩, fun _ => ?_⟩
          · exact ⟨[.ro, .ro], .tup [.int .i64 0, .ff], [none, none], by rw [mach_toRo]; exact c2, ⟨⟨trivial, trivial, trivial⟩, trivial⟩, .refl _, .refl _, trivial⟩
          · simp only [decide_eq_false_iff_not] at h3 h5 h7
            omega
          · exact ⟨[.ro, .ro], .tup [.int .i64 0, .ff], [none, none], by rw [mach_toRo]; exact c2, ⟨⟨trivial, trivial, trivial⟩, trivial⟩, .refl _, .refl _, trivial⟩
          · exact ⟨[.ro, .ro], .tup [.int .i64 0, .ff], [none, none], by rw [mach_toRo]; exact c2, ⟨⟨trivial, trivial, trivial⟩, trivial⟩, .refl _, .refl _, trivial⟩
        | some x =>
          rw [hr] at cr
          refine PlaceC.some' (p := ⟨-1, x⟩) (m' := m') (by rw [hp, hi]; simp only [hr, cond_true]) ?_
          refine con Try.func93 ?_
          refine ⟨fun h => absurd (by simpa using h) h0, fun h => ?_⟩
          refine ⟨[.mut, .ro], .tup [.int .i64 a, .tt], [some (.pb (GMach.ow m')), none], .nbr rfl c, trivial, ?_⟩
          have c2 : Con 75 [.agg (GMach.ro m'), .int .i64 a] (.tup [.int .i64 x, .tt]) [none, none] := .nbr rfl cr
          refine ⟨fun h3 => ⟨fun h5 => ⟨fun _ => ?_, fun h7 => False.elim ?_⟩, fun _ => ?_⟩, fun _ => ?_⟩
          · exact ⟨[.ro, .ro], .tup [.int .i64 x, .tt], [none, none], by rw [mach_toRo]; exact c2, ⟨⟨trivial, trivial, trivial⟩, trivial⟩, .refl _, .refl _, trivial⟩
          · simp only [decide_eq_false_iff_not] at h3 h5 h7
            omega
          · exact ⟨[.ro, .ro], .tup [.int .i64 x, .tt], [none, none], by rw [mach_toRo]; exact c2, ⟨⟨trivial, trivial, trivial⟩, trivial⟩, .refl _, .refl _, trivial⟩
          · exact ⟨[.ro, .ro], .tup [.int .i64 x, .tt], [none, none], by rw [mach_toRo]; exact c2, ⟨⟨trivial, trivial, trivial⟩, trivial⟩, .refl _, .refl _, trivial⟩
theorem mach_toRo' (m : GMach) (rows : List (List AV)) (m' : GMach) (h : rows = GInt.ros m'.r) (he : m' = { m with r := m'.r } := by rfl) : [AV.ro 1 (toRoRows (GInt.ows m.mem)), .ro 1 (toRoRows rows), .bool m.n, .bool m.z, .bool m.v, .bool m.c, .ro 1 (toRoRows (GInt.ows m.inp)), .ro 1 (toRoRows (GInt.ows m.out)), .int .i64 m.stop] = GMach.ro m' := by
  subst h
  rw [← mach_toRo, he]
theorem inl_fetch : ∀ x ∈ [(84, Try.f84)], inlOk Try.prog x.1 x.2 := fun x hx => by
  rw [List.mem_singleton.1 hx]
  exact ⟨Try.func84, by kernel_rfl, by kernel_rfl⟩
def prePl (i : Nat) : Option (Nat × TypeId) := bif Nat.beq i 1 || Nat.beq i 15 then some (0, 32) else none
theorem impl_place (m : GMach) (o : GOpd) (hm : RightM m) (ho : 0 ≤ o.reg ∧ o.reg ≤ 7) (hmo : 0 ≤ o.mode ∧ o.mode ≤ 7) : PlaceC 67 m o := by
  have hl := regs_len hm
  have hr := reg_row hm (i := o.reg) ho.1 (by omega)
  have hb := hm.reg o.reg
  have wp : IntKind.wrap .i64 (readR m o.reg + 2) = readR m o.reg + 2 := w64 (by omega) (by omega)
  have wm : IntKind.wrap .i64 (readR m o.reg - 2) = readR m o.reg - 2 := w64 (by omega) (by omega)
  have hs := reg_set m o.reg (wr16 (readR m o.reg + 2))
  have hs2 := reg_set m o.reg (wr16 (readR m o.reg - 2))
  obtain ⟨mode, reg, ox⟩ := o
  dsimp only at ho hmo hl hr hb wp wm hs hs2
  have hlt : reg < ((GInt.ros m.r).length : Int) := by rw [hl]; omega
  have h7 : (7 : Int) < ((GInt.ros m.r).length : Int) := by rw [hl]; decide
  have r7 := reg_row hm (i := 7) (by decide) (by decide)
  have b7 := hm.reg 7
  have w7 : IntKind.wrap .i64 (readR m 7 + 2) = readR m 7 + 2 := w64 (by omega) (by omega)
  have hs7 := reg_set m 7 (wr16 (readR m 7 + 2))
  have hm7 : RightM (setR m 7 (wr16 (readR m 7 + 2))) := hm.setR _ (wr16_in _)
  have hr7 := reg_row hm7 (i := reg) ho.1 (by omega)
  have hb7 := hm7.reg reg
  rw [← hs7] at hr7
  have hcase : mode = 0 ∨ mode = 1 ∨ mode = 2 ∨ mode = 3 ∨ mode = 4 ∨ mode = 5 ∨ mode = 6 ∨ mode = 7 := by omega
  rcases hcase with rfl | rfl | rfl | rfl | rfl | rfl | rfl | rfl
  · refine PlaceC.some' (p := ⟨reg, -1⟩) (m' := m) rfl ?_
    refine conI _ prePl (fun _ => false) Try.func67 inl_fetch ?_
    exact ⟨ho.1, hlt, by kernel_rfl, _, hr, fun h => ⟨.refl _, .refl _, trivial⟩, fun h => (nomatch h)⟩
  · refine PlaceC.some' (p := ⟨-1, readR m reg⟩) (m' := m) rfl ?_
    refine conI _ prePl (fun _ => false) Try.func67 inl_fetch ?_
    refine ⟨ho.1, hlt, by kernel_rfl, _, hr, ?_⟩
    refine ⟨fun h => (nomatch h), fun _ => ⟨fun h => (nomatch h), fun _ => ⟨fun h => (nomatch h), fun _ => ⟨fun h => (nomatch h), fun _ => ⟨fun h => (nomatch h), fun _ => ⟨fun h => (nomatch h), fun _ => ⟨fun h => (nomatch h), fun _ => ?_⟩⟩⟩⟩⟩⟩⟩
    exact ⟨fun h => (nomatch h), fun _ => ⟨.refl _, .refl _, trivial⟩⟩
  · refine PlaceC.some' (p := ⟨-1, readR m reg⟩) (m' := setR m reg (wr16 (readR m reg + 2))) rfl ?_
    refine conI _ prePl (fun _ => false) Try.func67 inl_fetch ?_
    refine ⟨ho.1, hlt, by kernel_rfl, _, hr, ?_⟩
    refine ⟨fun h => (nomatch h), fun _ => ⟨fun _ => ⟨[.ro], .int .i64 (wr16 (readR m reg + 2)), [none], (by rw [wp]; exact impl_Wrap _), trivial, ?_⟩, fun h => (nomatch h)⟩⟩
    exact ⟨_, hr, fun _ => ⟨by decide, fun h => (nomatch h), fun _ => ⟨.refl _, .of_eq (pbR m _ _ hs), trivial⟩⟩, fun h => (nomatch h)⟩
  · have hm' : RightM (setR m reg (wr16 (readR m reg + 2))) := hm.setR _ (wr16_in _)
    have cr := impl_ReadW (setR m reg (wr16 (readR m reg + 2))) (readR m reg) (by rw [hm'.mem]; decide)
    cases hrd : readV (setR m reg (wr16 (readR m reg + 2))) (readR m reg) with
    | none =>
      rw [hrd] at cr
      refine PlaceC.none' (by show (match readV (setR m reg (wr16 (readR m reg + 2))) (readR m reg) with | some x => some ((⟨-1, x⟩ : GPlace), setR m reg (wr16 (readR m reg + 2))) | none => none) = none; rw [hrd]) ⟨-1, 0⟩ (setR m reg (wr16 (readR m reg + 2))) ?_
      refine conI _ prePl (fun _ => false) Try.func67 inl_fetch ?_
      refine ⟨ho.1, hlt, by kernel_rfl, _, hr, ?_⟩
      refine ⟨fun h => (nomatch h), fun _ => ⟨fun h => (nomatch h), fun _ => ⟨fun _ => ⟨[.ro], .int .i64 (wr16 (readR m reg + 2)), [none], (by rw [wp]; exact impl_Wrap _), trivial, ?_⟩, fun h => (nomatch h)⟩⟩⟩
      refine ⟨_, hr, fun _ => ⟨by decide, fun _ => ?_, fun h => (nomatch h)⟩, fun h => (nomatch h)⟩
      exact ⟨[.ro, .ro], .tup [.int .i64 0, .ff], [none, none], (by rw [mach_toRo' m _ _ hs]; exact .nbr rfl cr), ⟨⟨trivial, trivial, trivial⟩, trivial⟩, .refl _, .of_eq (pbR m _ _ hs), trivial⟩
    | some x =>
      rw [hrd] at cr
      refine PlaceC.some' (p := ⟨-1, x⟩) (m' := setR m reg (wr16 (readR m reg + 2))) (by show (match readV (setR m reg (wr16 (readR m reg + 2))) (readR m reg) with | some x => some ((⟨-1, x⟩ : GPlace), setR m reg (wr16 (readR m reg + 2))) | none => none) = _; rw [hrd]) ?_
      refine conI _ prePl (fun _ => false) Try.func67 inl_fetch ?_
      refine ⟨ho.1, hlt, by kernel_rfl, _, hr, ?_⟩
      refine ⟨fun h => (nomatch h), fun _ => ⟨fun h => (nomatch h), fun _ => ⟨fun _ => ⟨[.ro], .int .i64 (wr16 (readR m reg + 2)), [none], (by rw [wp]; exact impl_Wrap _), trivial, ?_⟩, fun h => (nomatch h)⟩⟩⟩
      refine ⟨_, hr, fun _ => ⟨by decide, fun _ => ?_, fun h => (nomatch h)⟩, fun h => (nomatch h)⟩
      exact ⟨[.ro, .ro], .tup [.int .i64 x, .tt], [none, none], (by rw [mach_toRo' m _ _ hs]; exact .nbr rfl cr), ⟨⟨trivial, trivial, trivial⟩, trivial⟩, .refl _, .of_eq (pbR m _ _ hs), trivial⟩
  · refine PlaceC.some' (p := ⟨-1, wr16 (readR m reg - 2)⟩) (m' := setR m reg (wr16 (readR m reg - 2))) rfl ?_
    refine conI _ prePl (fun _ => false) Try.func67 inl_fetch ?_
    refine ⟨ho.1, hlt, by kernel_rfl, _, hr, ?_⟩
    refine ⟨fun h => (nomatch h), fun _ => ⟨fun h => (nomatch h), fun _ => ⟨fun h => (nomatch h), fun _ => ⟨fun _ => ⟨[.ro], .int .i64 (wr16 (readR m reg - 2)), [none], (by rw [wm]; exact impl_Wrap _), trivial, ?_⟩, fun h => (nomatch h)⟩⟩⟩⟩
    exact ⟨_, hr, fun _ => ⟨by decide, fun h => (nomatch h), fun _ => ⟨.refl _, .of_eq (pbR m _ _ hs2), trivial⟩⟩, fun h => (nomatch h)⟩
  · have hm' : RightM (setR m reg (wr16 (readR m reg - 2))) := hm.setR _ (wr16_in _)
    have cr := impl_ReadW (setR m reg (wr16 (readR m reg - 2))) (wr16 (readR m reg - 2)) (by rw [hm'.mem]; decide)
    cases hrd : readV (setR m reg (wr16 (readR m reg - 2))) (wr16 (readR m reg - 2)) with
    | none =>
      rw [hrd] at cr
      refine PlaceC.none' (by show (match readV (setR m reg (wr16 (readR m reg - 2))) (wr16 (readR m reg - 2)) with | some x => some ((⟨-1, x⟩ : GPlace), setR m reg (wr16 (readR m reg - 2))) | none => none) = none; rw [hrd]) ⟨-1, 0⟩ (setR m reg (wr16 (readR m reg - 2))) ?_
      refine conI _ prePl (fun _ => false) Try.func67 inl_fetch ?_
      refine ⟨ho.1, hlt, by kernel_rfl, _, hr, ?_⟩
      refine ⟨fun h => (nomatch h), fun _ => ⟨fun h => (nomatch h), fun _ => ⟨fun h => (nomatch h), fun _ => ⟨fun h => (nomatch h), fun _ => ⟨fun _ => ⟨[.ro], .int .i64 (wr16 (readR m reg - 2)), [none], (by rw [wm]; exact impl_Wrap _), trivial, ?_⟩, fun h => (nomatch h)⟩⟩⟩⟩⟩
      refine ⟨_, hr, fun _ => ⟨by decide, fun _ => ?_, fun h => (nomatch h)⟩, fun h => (nomatch h)⟩
      exact ⟨[.ro, .ro], .tup [.int .i64 0, .ff], [none, none], (by rw [mach_toRo' m _ _ hs2]; exact .nbr rfl cr), ⟨⟨trivial, trivial, trivial⟩, trivial⟩, .refl _, .of_eq (pbR m _ _ hs2), trivial⟩
    | some x =>
      rw [hrd] at cr
      refine PlaceC.some' (p := ⟨-1, x⟩) (m' := setR m reg (wr16 (readR m reg - 2))) (by show (match readV (setR m reg (wr16 (readR m reg - 2))) (wr16 (readR m reg - 2)) with | some x => some ((⟨-1, x⟩ : GPlace), setR m reg (wr16 (readR m reg - 2))) | none => none) = _; rw [hrd]) ?_
      refine conI _ prePl (fun _ => false) Try.func67 inl_fetch ?_
      refine ⟨ho.1, hlt, by kernel_rfl, _, hr, ?_⟩
      refine ⟨fun h => (nomatch h), fun _ => ⟨fun h => (nomatch h), fun _ => ⟨fun h => (nomatch h), fun _ => ⟨fun h => (nomatch h), fun _ => ⟨fun _ => ⟨[.ro], .int .i64 (wr16 (readR m reg - 2)), [none], (by rw [wm]; exact impl_Wrap _), trivial, ?_⟩, fun h => (nomatch h)⟩⟩⟩⟩⟩
      refine ⟨_, hr, fun _ => ⟨by decide, fun _ => ?_, fun h => (nomatch h)⟩, fun h => (nomatch h)⟩
      exact ⟨[.ro, .ro], .tup [.int .i64 x, .tt], [none, none], (by rw [mach_toRo' m _ _ hs2]; exact .nbr rfl cr), ⟨⟨trivial, trivial, trivial⟩, trivial⟩, .refl _, .of_eq (pbR m _ _ hs2), trivial⟩
  · have cr := impl_ReadW m (readR m 7) (by rw [hm.mem]; decide)
    cases hrd : readV m (readR m 7) with
    | none =>
      rw [hrd] at cr
      have hv : placeV m ⟨6, reg, ox⟩ = none := by
        show (match atS m ⟨6, reg, ox⟩ with | (_, false, _) => none | (a, true, m') => some ((⟨-1, a⟩ : GPlace), m')) = _
        have : atS m ⟨6, reg, ox⟩ = (wr16 (0 + readR m reg), false, m) := by
          show (match fetchV m with | some (n, m') => (wr16 (n + readR m' reg), true, m') | none => (wr16 (0 + readR m reg), false, m)) = _
          rw [fetchV, hrd]
        rw [this]
      refine PlaceC.none' hv ⟨-1, wr16 (0 + readR (setR m 7 (wr16 (readR m 7 + 2))) reg)⟩ (setR m 7 (wr16 (readR m 7 + 2))) ?_
      refine conI _ prePl (fun _ => false) Try.func67 inl_fetch ?_
      refine ⟨ho.1, hlt, by kernel_rfl, _, hr, ?_⟩
      refine ⟨fun h => (nomatch h), fun _ => ⟨fun h => (nomatch h), fun _ => ⟨fun h => (nomatch h), fun _ => ⟨fun h => (nomatch h), fun _ => ⟨fun h => (nomatch h), fun _ => ⟨fun _ => ?_, fun h => (nomatch h)⟩⟩⟩⟩⟩⟩
      refine ⟨by decide, h7, _, r7, [.ro, .ro], .tup [.int .i64 0, .ff], [none, none], (by rw [mach_toRo]; exact .nbr rfl cr), ⟨⟨trivial, trivial, trivial⟩, trivial⟩, by kernel_rfl, ?_⟩
      refine ⟨by decide, h7, _, r7, [.ro], .int .i64 (wr16 (readR m 7 + 2)), [none], (by rw [w7]; exact impl_Wrap _), trivial, by decide, h7, _, r7, by kernel_rfl, ?_⟩
      refine ⟨_, hr7, [.ro], .int .i64 (wr16 (0 + readR (setR m 7 (wr16 (readR m 7 + 2))) reg)), [none], (by rw [w64 (by omega) (by omega)]; exact impl_Wrap _), trivial, ?_⟩
      exact ⟨.refl _, .of_eq (pbR m _ _ hs7), trivial⟩
    | some k =>
      rw [hrd] at cr
      have hk := hm.read hrd
      have hv : placeV m ⟨6, reg, ox⟩ = some (⟨-1, wr16 (k + readR (setR m 7 (wr16 (readR m 7 + 2))) reg)⟩, setR m 7 (wr16 (readR m 7 + 2))) := by
        show (match atS m ⟨6, reg, ox⟩ with | (_, false, _) => none | (a, true, m') => some ((⟨-1, a⟩ : GPlace), m')) = _
        have : atS m ⟨6, reg, ox⟩ = (wr16 (k + readR (setR m 7 (wr16 (readR m 7 + 2))) reg), true, setR m 7 (wr16 (readR m 7 + 2))) := by
          show (match fetchV m with | some (n, m') => (wr16 (n + readR m' reg), true, m') | none => (wr16 (0 + readR m reg), false, m)) = _
          rw [fetchV, hrd]
        rw [this]
      refine PlaceC.some' hv ?_
      refine conI _ prePl (fun _ => false) Try.func67 inl_fetch ?_
      refine ⟨ho.1, hlt, by kernel_rfl, _, hr, ?_⟩
      refine ⟨fun h => (nomatch h), fun _ => ⟨fun h => (nomatch h), fun _ => ⟨fun h => (nomatch h), fun _ => ⟨fun h => (nomatch h), fun _ => ⟨fun h => (nomatch h), fun _ => ⟨fun _ => ?_, fun h => (nomatch h)⟩⟩⟩⟩⟩⟩
      refine ⟨by decide, h7, _, r7, [.ro, .ro], .tup [.int .i64 k, .tt], [none, none], (by rw [mach_toRo]; exact .nbr rfl cr), ⟨⟨trivial, trivial, trivial⟩, trivial⟩, by kernel_rfl, ?_⟩
      refine ⟨by decide, h7, _, r7, [.ro], .int .i64 (wr16 (readR m 7 + 2)), [none], (by rw [w7]; exact impl_Wrap _), trivial, by decide, h7, _, r7, by kernel_rfl, ?_⟩
      refine ⟨_, hr7, [.ro], .int .i64 (wr16 (k + readR (setR m 7 (wr16 (readR m 7 + 2))) reg)), [none], (by rw [w64 (by omega) (by omega)]; exact impl_Wrap _), trivial, ?_⟩
      exact ⟨fun _ => ⟨by decide, fun h => (nomatch h), fun _ => ⟨.refl _, .of_eq (pbR m _ _ hs7), trivial⟩⟩, fun h => (nomatch h)⟩
  · have cr := impl_ReadW m (readR m 7) (by rw [hm.mem]; decide)
    cases hrd : readV m (readR m 7) with
    | none =>
      rw [hrd] at cr
      have hv : placeV m ⟨7, reg, ox⟩ = none := by
        show (match atS m ⟨7, reg, ox⟩ with | (_, false, _) => none | (a, true, m') => (match readV m' a with | some x => some ((⟨-1, x⟩ : GPlace), m') | none => none)) = _
        have : atS m ⟨7, reg, ox⟩ = (wr16 (0 + readR m reg), false, m) := by
          show (match fetchV m with | some (n, m') => (wr16 (n + readR m' reg), true, m') | none => (wr16 (0 + readR m reg), false, m)) = _
          rw [fetchV, hrd]
        rw [this]
      refine PlaceC.none' hv ⟨-1, wr16 (0 + readR (setR m 7 (wr16 (readR m 7 + 2))) reg)⟩ (setR m 7 (wr16 (readR m 7 + 2))) ?_
      refine conI _ prePl (fun _ => false) Try.func67 inl_fetch ?_
      refine ⟨ho.1, hlt, by kernel_rfl, _, hr, ?_⟩
      refine ⟨fun h => (nomatch h), fun _ => ⟨fun h => (nomatch h), fun _ => ⟨fun h => (nomatch h), fun _ => ⟨fun h => (nomatch h), fun _ => ⟨fun h => (nomatch h), fun _ => ⟨fun h => (nomatch h), fun _ => ⟨fun _ => ?_, fun h => (nomatch h)⟩⟩⟩⟩⟩⟩⟩
      refine ⟨by decide, h7, _, r7, [.ro, .ro], .tup [.int .i64 0, .ff], [none, none], (by rw [mach_toRo]; exact .nbr rfl cr), ⟨⟨trivial, trivial, trivial⟩, trivial⟩, by kernel_rfl, ?_⟩
      refine ⟨by decide, h7, _, r7, [.ro], .int .i64 (wr16 (readR m 7 + 2)), [none], (by rw [w7]; exact impl_Wrap _), trivial, by decide, h7, _, r7, by kernel_rfl, ?_⟩
      refine ⟨_, hr7, [.ro], .int .i64 (wr16 (0 + readR (setR m 7 (wr16 (readR m 7 + 2))) reg)), [none], (by rw [w64 (by omega) (by omega)]; exact impl_Wrap _), trivial, ?_⟩
      exact ⟨.refl _, .of_eq (pbR m _ _ hs7), trivial⟩
    | some k =>
      rw [hrd] at cr
      have hk := hm.read hrd
      have cr2 := impl_ReadW (setR m 7 (wr16 (readR m 7 + 2))) (wr16 (k + readR (setR m 7 (wr16 (readR m 7 + 2))) reg)) (by rw [hm7.mem]; decide)
      cases hrd2 : readV (setR m 7 (wr16 (readR m 7 + 2))) (wr16 (k + readR (setR m 7 (wr16 (readR m 7 + 2))) reg)) with
      | none =>
        rw [hrd2] at cr2
        have hv : placeV m ⟨7, reg, ox⟩ = none := by
          show (match atS m ⟨7, reg, ox⟩ with | (_, false, _) => none | (a, true, m') => (match readV m' a with | some x => some ((⟨-1, x⟩ : GPlace), m') | none => none)) = _
          have : atS m ⟨7, reg, ox⟩ = (wr16 (k + readR (setR m 7 (wr16 (readR m 7 + 2))) reg), true, setR m 7 (wr16 (readR m 7 + 2))) := by
            show (match fetchV m with | some (n, m') => (wr16 (n + readR m' reg), true, m') | none => (wr16 (0 + readR m reg), false, m)) = _
            rw [fetchV, hrd]
          rw [this]
          dsimp only
          rw [hrd2]
        refine PlaceC.none' hv ⟨-1, 0⟩ (setR m 7 (wr16 (readR m 7 + 2))) ?_
        refine conI _ prePl (fun _ => false) Try.func67 inl_fetch ?_
        refine ⟨ho.1, hlt, by kernel_rfl, _, hr, ?_⟩
        refine ⟨fun h => (nomatch h), fun _ => ⟨fun h => (nomatch h), fun _ => ⟨fun h => (nomatch h), fun _ => ⟨fun h => (nomatch h), fun _ => ⟨fun h => (nomatch h), fun _ => ⟨fun h => (nomatch h), fun _ => ⟨fun _ => ?_, fun h => (nomatch h)⟩⟩⟩⟩⟩⟩⟩
        refine ⟨by decide, h7, _, r7, [.ro, .ro], .tup [.int .i64 k, .tt], [none, none], (by rw [mach_toRo]; exact .nbr rfl cr), ⟨⟨trivial, trivial, trivial⟩, trivial⟩, by kernel_rfl, ?_⟩
        refine ⟨by decide, h7, _, r7, [.ro], .int .i64 (wr16 (readR m 7 + 2)), [none], (by rw [w7]; exact impl_Wrap _), trivial, by decide, h7, _, r7, by kernel_rfl, ?_⟩
        refine ⟨_, hr7, [.ro], .int .i64 (wr16 (k + readR (setR m 7 (wr16 (readR m 7 + 2))) reg)), [none], (by rw [w64 (by omega) (by omega)]; exact impl_Wrap _), trivial, ?_⟩
        refine ⟨fun _ => ⟨by decide, fun _ => ?_, fun h => (nomatch h)⟩, fun h => (nomatch h)⟩
        exact ⟨[.ro, .ro], .tup [.int .i64 0, .ff], [none, none], (by rw [mach_toRo' m _ _ hs7]; exact .nbr rfl cr2), ⟨⟨trivial, trivial, trivial⟩, trivial⟩, .refl _, .of_eq (pbR m _ _ hs7), trivial⟩
      | some x =>
        rw [hrd2] at cr2
        have hv : placeV m ⟨7, reg, ox⟩ = some (⟨-1, x⟩, setR m 7 (wr16 (readR m 7 + 2))) := by
          show (match atS m ⟨7, reg, ox⟩ with | (_, false, _) => none | (a, true, m') => (match readV m' a with | some x => some ((⟨-1, x⟩ : GPlace), m') | none => none)) = _
          have : atS m ⟨7, reg, ox⟩ = (wr16 (k + readR (setR m 7 (wr16 (readR m 7 + 2))) reg), true, setR m 7 (wr16 (readR m 7 + 2))) := by
            show (match fetchV m with | some (n, m') => (wr16 (n + readR m' reg), true, m') | none => (wr16 (0 + readR m reg), false, m)) = _
            rw [fetchV, hrd]
          rw [this]
          dsimp only
          rw [hrd2]
        refine PlaceC.some' hv ?_
        refine conI _ prePl (fun _ => false) Try.func67 inl_fetch ?_
        refine ⟨ho.1, hlt, by kernel_rfl, _, hr, ?_⟩
        refine ⟨fun h => (nomatch h), fun _ => ⟨fun h => (nomatch h), fun _ => ⟨fun h => (nomatch h), fun _ => ⟨fun h => (nomatch h), fun _ => ⟨fun h => (nomatch h), fun _ => ⟨fun h => (nomatch h), fun _ => ⟨fun _ => ?_, fun h => (nomatch h)⟩⟩⟩⟩⟩⟩⟩
        refine ⟨by decide, h7, _, r7, [.ro, .ro], .tup [.int .i64 k, .tt], [none, none], (by rw [mach_toRo]; exact .nbr rfl cr), ⟨⟨trivial, trivial, trivial⟩, trivial⟩, by kernel_rfl, ?_⟩
        refine ⟨by decide, h7, _, r7, [.ro], .int .i64 (wr16 (readR m 7 + 2)), [none], (by rw [w7]; exact impl_Wrap _), trivial, by decide, h7, _, r7, by kernel_rfl, ?_⟩
        refine ⟨_, hr7, [.ro], .int .i64 (wr16 (k + readR (setR m 7 (wr16 (readR m 7 + 2))) reg)), [none], (by rw [w64 (by omega) (by omega)]; exact impl_Wrap _), trivial, ?_⟩
        refine ⟨fun _ => ⟨by decide, fun _ => ?_, fun h => (nomatch h)⟩, fun h => (nomatch h)⟩
        exact ⟨[.ro, .ro], .tup [.int .i64 x, .tt], [none, none], (by rw [mach_toRo' m _ _ hs7]; exact .nbr rfl cr2), ⟨⟨trivial, trivial, trivial⟩, trivial⟩, .refl _, .of_eq (pbR m _ _ hs7), trivial⟩
end Go.Proofs.VI
