/- Contracts of functions, and what they rest on: l07dos. -/
import Derived.Test.YtkbdnmmnnkoenaaM12
import Derived.Test.YtkbdnmmnnkoenaaM3
set_option linter.unusedVariables false
set_option linter.unusedSimpArgs false
set_option maxRecDepth 10000
set_option maxHeartbeats 4000000
namespace Go.Proofs.VI
open Go
def pre5 (i : Nat) : Option (Nat × TypeId) := bif Nat.beq i 5 then some (0, 32) else none
theorem spec_do1 (m : GMach) (i : GIns) (hm : RightM m) (hi : InsR i) (h6 : i.op ≤ 6) : MethC 78 m [.agg (GIns.ro i)] (doV m i) := by
  have ho := hi.op
  obtain ⟨p, m1, hp, cp⟩ := spec_l6Place m i.src hm hi.s
  cases hv : placeV m i.src with
  | none =>
    rw [hv] at cp
    refine MethC.bad (by rw [doV, if_pos h6, hv]) m1 ?_
    refine conI [] pre5 (fun _ => false) Try.func78 (fun _ h => by cases h) ?_
    exact ⟨fun _ => ⟨[.mut, .ro], .tup [.agg (GPlace.ro p), .ff], [some (.pb (GMach.ow m1)), none], .nbr rfl cp, trivial, .refl _, .refl _, trivial⟩, fun h => absurd h6 (by simpa using h)⟩
  | some r =>
    have e := hp r hv
    subst e
    rw [hv] at cp
    obtain ⟨hm1, hP⟩ := placeV_right hm hi.s hv
    have cl := spec_Load m1 p hm1 hP
    cases hl : ldV m1 p with
    | none =>
      rw [hl] at cl
      refine MethC.bad (by rw [doV, if_pos h6, hv]; dsimp only; rw [hl]) m1 ?_
      refine conI [] pre5 (fun _ => false) Try.func78 (fun _ h => by cases h) ?_
      refine ⟨fun _ => ⟨[.mut, .ro], .tup [.agg (GPlace.ro p), .tt], [some (.pb (GMach.ow m1)), none], .nbr rfl cp, trivial, ?_⟩, fun h => absurd h6 (by simpa using h)⟩
      exact ⟨[.ro, .ro], .tup [.int .i64 0, .ff], [none, none], (by rw [mach_toRo]; exact .nbr rfl cl), ⟨⟨trivial, trivial, trivial⟩, trivial⟩, by kernel_rfl, .refl _, .refl _, trivial⟩
    | some x =>
      rw [hl] at cl
      have hx := ldV_right hm1 hl
      obtain ⟨q, m2, hq, cq⟩ := spec_l6Place m1 i.dst hm1 hi.d
      cases hv2 : placeV m1 i.dst with
      | none =>
        rw [hv2] at cq
        refine MethC.bad (by rw [doV, if_pos h6, hv]; dsimp only; rw [hl]; dsimp only; rw [hv2]) m2 ?_
        refine conI [] pre5 (fun _ => false) Try.func78 (fun _ h => by cases h) ?_
        refine ⟨fun _ => ⟨[.mut, .ro], .tup [.agg (GPlace.ro p), .tt], [some (.pb (GMach.ow m1)), none], .nbr rfl cp, trivial, ?_⟩, fun h => absurd h6 (by simpa using h)⟩
        refine ⟨[.ro, .ro], .tup [.int .i64 x, .tt], [none, none], (by rw [mach_toRo]; exact .nbr rfl cl), ⟨⟨trivial, trivial, trivial⟩, trivial⟩, by kernel_rfl, ?_⟩
        exact ⟨[.mut, .ro], .tup [.agg (GPlace.ro q), .ff], [some (.pb (GMach.ow m2)), none], .nbr rfl cq, trivial, .refl _, .refl _, trivial⟩
      | some r2 =>
        have e := hq r2 hv2
        subst e
        rw [hv2] at cq
        obtain ⟨hm2, hQ⟩ := placeV_right hm1 hi.d hv2
        obtain ⟨m3, h3, cd⟩ := spec_l7Two m2 i.op x q hm2 hQ hx ⟨ho.1, h6⟩
        refine MethC.of (by rw [doV, if_pos h6, hv]; dsimp only; rw [hl]; dsimp only; rw [hv2]) m3 h3 ?_
        refine conI [] pre5 (fun _ => false) Try.func78 (fun _ h => by cases h) ?_
        refine ⟨fun _ => ⟨[.mut, .ro], .tup [.agg (GPlace.ro p), .tt], [some (.pb (GMach.ow m1)), none], .nbr rfl cp, trivial, ?_⟩, fun h => absurd h6 (by simpa using h)⟩
        refine ⟨[.ro, .ro], .tup [.int .i64 x, .tt], [none, none], (by rw [mach_toRo]; exact .nbr rfl cl), ⟨⟨trivial, trivial, trivial⟩, trivial⟩, by kernel_rfl, ?_⟩
        refine ⟨[.mut, .ro], .tup [.agg (GPlace.ro q), .tt], [some (.pb (GMach.ow m2)), none], .nbr rfl cq, trivial, ?_⟩
        exact ⟨[.mut, .ro, .ro, .ro], .bool _, [some (.pb (GMach.ow m3)), none, none, none], cd, trivial, .refl _, .refl _, trivial⟩
theorem spec_do2 (m : GMach) (i : GIns) (hm : RightM m) (hi : InsR i) (h6 : ¬ i.op ≤ 6) (h15 : i.op ≤ 15) : MethC 78 m [.agg (GIns.ro i)] (doV m i) := by
  have ho := hi.op
  obtain ⟨q, m1, hq, cq⟩ := spec_l6Place m i.dst hm hi.d
  cases hv : placeV m i.dst with
  | none =>
    rw [hv] at cq
    refine MethC.bad (by rw [doV, if_neg h6, if_pos h15, hv]) m1 ?_
    refine conI [] pre5 (fun _ => false) Try.func78 (fun _ h => by cases h) ?_
    exact ⟨fun h => absurd (by simpa using h) h6, fun _ => ⟨fun _ => ⟨[.mut, .ro], .tup [.agg (GPlace.ro q), .ff], [some (.pb (GMach.ow m1)), none], .nbr rfl cq, trivial, .refl _, .refl _, trivial⟩, fun h => absurd h15 (by simpa using h)⟩⟩
  | some r =>
    have e := hq r hv
    subst e
    rw [hv] at cq
    obtain ⟨hm1, hQ⟩ := placeV_right hm hi.d hv
    by_cases h14 : i.op = 14
    · obtain ⟨m3, h3, cd⟩ := spec_l7Go m1 (-1) q hm1 hQ (by decide)
      refine MethC.of (r2 := goV m1 q (-1)) (by rw [doV, if_neg h6, if_pos h15, hv]; dsimp only; rw [if_pos (by omega), if_neg (by omega)]) m3 h3 ?_
      refine conI [] pre5 (fun _ => false) Try.func78 (fun _ h => by cases h) ?_
      refine ⟨fun h => absurd (by simpa using h) h6, fun _ => ⟨fun _ => ⟨[.mut, .ro], .tup [.agg (GPlace.ro q), .tt], [some (.pb (GMach.ow m1)), none], .nbr rfl cq, trivial, ?_⟩, fun h => absurd h15 (by simpa using h)⟩⟩
      exact ⟨fun _ => ⟨[.mut, .ro, .ro], .bool _, [some (.pb (GMach.ow m3)), none, none], cd, trivial, .refl _, .refl _, trivial⟩, fun h => absurd h14 (by simpa using h)⟩
    by_cases h15b : i.op = 15
    · obtain ⟨m3, h3, cd⟩ := spec_l7Go m1 i.n q hm1 hQ (hi.n7 (.inl h15b)).2
      refine MethC.of (r2 := goV m1 q i.n) (by rw [doV, if_neg h6, if_pos h15, hv]; dsimp only; rw [if_pos (by omega), if_pos h15b]) m3 h3 ?_
      refine conI [] pre5 (fun _ => false) Try.func78 (fun _ h => by cases h) ?_
      refine ⟨fun h => absurd (by simpa using h) h6, fun _ => ⟨fun _ => ⟨[.mut, .ro], .tup [.agg (GPlace.ro q), .tt], [some (.pb (GMach.ow m1)), none], .nbr rfl cq, trivial, ?_⟩, fun h => absurd h15 (by simpa using h)⟩⟩
      exact ⟨fun h => absurd (by simpa using h) h14, fun _ => ⟨fun _ => ⟨[.mut, .ro, .ro], .bool _, [some (.pb (GMach.ow m3)), none, none], cd, trivial, .refl _, .refl _, trivial⟩, fun h => absurd h15b (by simpa using h)⟩⟩
    · obtain ⟨m3, h3, cd⟩ := spec_l7One m1 i.op q hm1 hQ ⟨by omega, by omega⟩
      refine MethC.of (r2 := sglV m1 i.op q) (by rw [doV, if_neg h6, if_pos h15, hv]; dsimp only; rw [if_neg (by omega)]) m3 h3 ?_
      refine conI [] pre5 (fun _ => false) Try.func78 (fun _ h => by cases h) ?_
      refine ⟨fun h => absurd (by simpa using h) h6, fun _ => ⟨fun _ => ⟨[.mut, .ro], .tup [.agg (GPlace.ro q), .tt], [some (.pb (GMach.ow m1)), none], .nbr rfl cq, trivial, ?_⟩, fun h => absurd h15 (by simpa using h)⟩⟩
      exact ⟨fun h => absurd (by simpa using h) h14, fun _ => ⟨fun h => absurd (by simpa using h) h15b, fun _ => ⟨[.mut, .ro, .ro], .bool _, [some (.pb (GMach.ow m3)), none, none], cd, trivial, .refl _, .refl _, trivial⟩⟩⟩
theorem spec_do3 (m : GMach) (i : GIns) (hm : RightM m) (hi : InsR i) (h15 : ¬ i.op ≤ 15) : MethC 78 m [.agg (GIns.ro i)] (doV m i) := by
  have ho := hi.op
  have h6 : ¬ i.op ≤ 6 := by omega
  by_cases h16 : i.op = 16
  · obtain ⟨m3, h3, cd⟩ := spec_l7Back m i.n hm (hi.n7 (.inr h16))
    refine MethC.of (r2 := retV m i.n) (by rw [doV, if_neg h6, if_neg h15, if_pos h16]) m3 h3 ?_
    refine conI [] pre5 (fun _ => false) Try.func78 (fun _ h => by cases h) ?_
    refine ⟨fun h => absurd (by simpa using h) h6, fun _ => ⟨fun h => absurd (by simpa using h) h15, fun _ => ⟨fun _ => ?_, fun h => absurd h16 (by simpa using h)⟩⟩⟩
    exact ⟨[.mut, .ro], .bool _, [some (.pb (GMach.ow m3)), none], cd, trivial, .refl _, .refl _, trivial⟩
  by_cases h21 : i.op ≤ 21
  · have cg := spec_l7Branch m i hm hi.n
    refine MethC.ok (m' := bif goesV m i.op then jmpR m i.n else m) (by rw [doV, if_neg h6, if_neg h15, if_neg h16, if_pos h21]) ?_
    refine conI [] pre5 (fun _ => false) Try.func78 (fun _ h => by cases h) ?_
    refine ⟨fun h => absurd (by simpa using h) h6, fun _ => ⟨fun h => absurd (by simpa using h) h15, fun _ => ⟨fun h => absurd (by simpa using h) h16, fun _ => ⟨fun _ => ?_, fun h => absurd h21 (by simpa using h)⟩⟩⟩⟩
    exact ⟨[.mut, .ro], .tup [], [some (.pb (GMach.ow (bif goesV m i.op then jmpR m i.n else m))), none], cg, trivial, .refl _, .refl _, trivial⟩
  by_cases h22 : i.op = 22
  · refine MethC.ok (m' := { m with stop := 1 }) (by rw [doV, if_neg h6, if_neg h15, if_neg h16, if_neg h21, if_pos h22]) ?_
    refine conI [] pre5 (fun _ => false) Try.func78 (fun _ h => by cases h) ?_
    exact ⟨fun h => absurd (by simpa using h) h6, fun _ => ⟨fun h => absurd (by simpa using h) h15, fun _ => ⟨fun h => absurd (by simpa using h) h16, fun _ => ⟨fun h => absurd (by simpa using h) h21, fun _ => ⟨fun _ => ⟨.refl _, .refl _, trivial⟩, fun h => absurd h22 (by simpa using h)⟩⟩⟩⟩⟩
  · obtain ⟨m3, h3, cd⟩ := spec_l7Emt m i.n hm
    refine MethC.of (r2 := emtV m i.n) (by rw [doV, if_neg h6, if_neg h15, if_neg h16, if_neg h21, if_neg h22]) m3 h3 ?_
    refine conI [] pre5 (fun _ => false) Try.func78 (fun _ h => by cases h) ?_
    exact ⟨fun h => absurd (by simpa using h) h6, fun _ => ⟨fun h => absurd (by simpa using h) h15, fun _ => ⟨fun h => absurd (by simpa using h) h16, fun _ => ⟨fun h => absurd (by simpa using h) h21, fun _ => ⟨fun h => absurd (by simpa using h) h22, fun _ => ⟨[.mut, .ro], .bool _, [some (.pb (GMach.ow m3)), none], cd, trivial, .refl _, .refl _, trivial⟩⟩⟩⟩⟩⟩
theorem spec_l7Do (m : GMach) (i : GIns) (hm : RightM m) (hi : InsR i) : MethC 78 m [.agg (GIns.ro i)] (doV m i) := by
  by_cases h6 : i.op ≤ 6
  · exact spec_do1 m i hm hi h6
  by_cases h15 : i.op ≤ 15
  · exact spec_do2 m i hm hi h6 h15
  · exact spec_do3 m i hm hi h15
end Go.Proofs.VI
