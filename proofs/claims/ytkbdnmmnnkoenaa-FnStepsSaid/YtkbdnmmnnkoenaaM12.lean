/- Contracts of functions, and what they rest on: l07do. -/
import Derived.Test.YtkbdnmmnnkoenaaM11
set_option linter.unusedVariables false
set_option linter.unusedSimpArgs false
set_option maxRecDepth 10000
set_option maxHeartbeats 4000000
namespace Go.Proofs.VI
open Go
structure InsR (i : GIns) : Prop where
  op : 1 ≤ i.op ∧ i.op ≤ 23
  s : 0 ≤ i.src.reg ∧ i.src.reg ≤ 7
  sm : 0 ≤ i.src.mode ∧ i.src.mode ≤ 7
  d : 0 ≤ i.dst.reg ∧ i.dst.reg ≤ 7
  dm : 0 ≤ i.dst.mode ∧ i.dst.mode ≤ 7
  n : -256 ≤ i.n ∧ i.n ≤ 256
  n7 : i.op = 15 ∨ i.op = 16 → 0 ≤ i.n ∧ i.n ≤ 7
def doV (m : GMach) (i : GIns) : Option GMach :=
  if i.op ≤ 6 then (match placeV m i.src with
    | none => none
    | some (p, m1) => (match ldV m1 p with
      | none => none
      | some x => (match placeV m1 i.dst with
        | none => none
        | some (q, m2) => dblV m2 i.op x q)))
  else if i.op ≤ 15 then (match placeV m i.dst with
    | none => none
    | some (q, m1) => if 14 ≤ i.op then goV m1 q (if i.op = 15 then i.n else -1) else sglV m1 i.op q)
  else if i.op = 16 then retV m i.n
  else if i.op ≤ 21 then some (bif goesV m i.op then jmpR m i.n else m)
  else if i.op = 22 then some { m with stop := 1 }
  else emtV m i.n
theorem impl_do1 (m : GMach) (i : GIns) (hm : RightM m) (hi : InsR i) (h6 : i.op ≤ 6) : MethC 43 m [.agg (GIns.ro i)] (doV m i) := by
  have ho := hi.op
  have cS : Con 34 [.int .i64 i.op] (.bool true) [none] := by have c := impl_hasSrc i.op; rw [inI_t (by omega)] at c; exact c
  have cD : Con 36 [.int .i64 i.op] (.bool true) [none] := by have c := impl_hasDst i.op; rw [inI_t (by omega)] at c; exact c
  obtain ⟨p, m1, hp, cp⟩ := impl_place m i.src hm hi.s hi.sm
  cases hv : placeV m i.src with
  | none =>
    rw [hv] at cp
    refine MethC.bad (by rw [doV, if_pos h6, hv]) m1 ?_
    refine conI [] preAll (fun _ => false) Try.func43 (fun _ h => by cases h) ?_
    exact ⟨[.ro], .tt, [none], .nbr rfl cS, trivial, [.mut, .ro], .tup [.agg (GPlace.ro p), .ff], [some (.pb (GMach.ow m1)), none], .nbr rfl cp, trivial, .refl _, .refl _, trivial⟩
  | some r =>
    have e := hp r hv
    subst e
    rw [hv] at cp
    obtain ⟨hm1, hP⟩ := placeV_right hm hi.s hv
    have cl := impl_Load m1 p hm1 hP
    cases hl : ldV m1 p with
    | none =>
      rw [hl] at cl
      refine MethC.bad (by rw [doV, if_pos h6, hv]; dsimp only; rw [hl]) m1 ?_
      refine conI [] preAll (fun _ => false) Try.func43 (fun _ h => by cases h) ?_
      refine ⟨[.ro], .tt, [none], .nbr rfl cS, trivial, [.mut, .ro], .tup [.agg (GPlace.ro p), .tt], [some (.pb (GMach.ow m1)), none], .nbr rfl cp, trivial, ?_⟩
      exact ⟨[.ro, .ro], .tup [.int .i64 0, .ff], [none, none], (by rw [mach_toRo]; exact .nbr rfl cl), ⟨⟨trivial, trivial, trivial⟩, trivial⟩, by kernel_rfl, .refl _, .refl _, trivial⟩
    | some x =>
      rw [hl] at cl
      have hx := ldV_right hm1 hl
      obtain ⟨q, m2, hq, cq⟩ := impl_place m1 i.dst hm1 hi.d hi.dm
      cases hv2 : placeV m1 i.dst with
      | none =>
        rw [hv2] at cq
        refine MethC.bad (by rw [doV, if_pos h6, hv]; dsimp only; rw [hl]; dsimp only; rw [hv2]) m2 ?_
        refine conI [] preAll (fun _ => false) Try.func43 (fun _ h => by cases h) ?_
        refine ⟨[.ro], .tt, [none], .nbr rfl cS, trivial, [.mut, .ro], .tup [.agg (GPlace.ro p), .tt], [some (.pb (GMach.ow m1)), none], .nbr rfl cp, trivial, ?_⟩
        refine ⟨[.ro, .ro], .tup [.int .i64 x, .tt], [none, none], (by rw [mach_toRo]; exact .nbr rfl cl), ⟨⟨trivial, trivial, trivial⟩, trivial⟩, by kernel_rfl, ?_⟩
        exact ⟨[.ro], .tt, [none], .nbr rfl cD, trivial, [.mut, .ro], .tup [.agg (GPlace.ro q), .ff], [some (.pb (GMach.ow m2)), none], .nbr rfl cq, trivial, .refl _, .refl _, trivial⟩
      | some r2 =>
        have e := hq r2 hv2
        subst e
        rw [hv2] at cq
        obtain ⟨hm2, hQ⟩ := placeV_right hm1 hi.d hv2
        obtain ⟨m3, h3, cd⟩ := impl_double m2 i.op x q hm2 hQ hx ⟨ho.1, h6⟩
        refine MethC.of (by rw [doV, if_pos h6, hv]; dsimp only; rw [hl]; dsimp only; rw [hv2]) m3 h3 ?_
        refine conI [] preAll (fun _ => false) Try.func43 (fun _ h => by cases h) ?_
        refine ⟨[.ro], .tt, [none], .nbr rfl cS, trivial, [.mut, .ro], .tup [.agg (GPlace.ro p), .tt], [some (.pb (GMach.ow m1)), none], .nbr rfl cp, trivial, ?_⟩
        refine ⟨[.ro, .ro], .tup [.int .i64 x, .tt], [none, none], (by rw [mach_toRo]; exact .nbr rfl cl), ⟨⟨trivial, trivial, trivial⟩, trivial⟩, by kernel_rfl, ?_⟩
        refine ⟨[.ro], .tt, [none], .nbr rfl cD, trivial, [.mut, .ro], .tup [.agg (GPlace.ro q), .tt], [some (.pb (GMach.ow m2)), none], .nbr rfl cq, trivial, ?_⟩
        exact ⟨[.ro], .tt, [none], .nbr rfl cS, trivial, [.mut, .ro, .ro, .ro], .bool _, [some (.pb (GMach.ow m3)), none, none, none], cd, trivial, .refl _, .refl _, trivial⟩
theorem impl_do2 (m : GMach) (i : GIns) (hm : RightM m) (hi : InsR i) (h6 : ¬ i.op ≤ 6) (h15 : i.op ≤ 15) : MethC 43 m [.agg (GIns.ro i)] (doV m i) := by
  have ho := hi.op
  have cS : Con 34 [.int .i64 i.op] (.bool false) [none] := by have c := impl_hasSrc i.op; rw [inI_f (by omega)] at c; exact c
  have cD : Con 36 [.int .i64 i.op] (.bool true) [none] := by have c := impl_hasDst i.op; rw [inI_t (by omega)] at c; exact c
  obtain ⟨q, m1, hq, cq⟩ := impl_place m i.dst hm hi.d hi.dm
  cases hv : placeV m i.dst with
  | none =>
    rw [hv] at cq
    refine MethC.bad (by rw [doV, if_neg h6, if_pos h15, hv]) m1 ?_
    refine conI [] preAll (fun _ => false) Try.func43 (fun _ h => by cases h) ?_
    exact ⟨[.ro], .ff, [none], .nbr rfl cS, trivial, [.ro], .tt, [none], .nbr rfl cD, trivial, [.mut, .ro], .tup [.agg (GPlace.ro q), .ff], [some (.pb (GMach.ow m1)), none], .nbr rfl cq, trivial, .refl _, .refl _, trivial⟩
  | some r =>
    have e := hq r hv
    subst e
    rw [hv] at cq
    obtain ⟨hm1, hQ⟩ := placeV_right hm hi.d hv
    by_cases h14 : 14 ≤ i.op
    · have cW : Con 44 [.int .i64 i.op, .int .i64 7, .int .i64 13] (.bool false) [none, none, none] := by have c := impl_within i.op 7 13; rw [inI_f (by omega)] at c; exact c
      have hg : goV m1 q (if i.op = 15 then i.n else -1) = doV m i := by rw [doV, if_neg h6, if_pos h15, hv]; dsimp only; rw [if_pos h14]
      obtain ⟨m3, h3, cd⟩ := impl_jump m1 i q hm1 hQ (fun h => hi.n7 (.inl h))
      refine MethC.of hg.symm m3 h3 ?_
      refine conI [] preAll (fun _ => false) Try.func43 (fun _ h => by cases h) ?_
      refine ⟨[.ro], .ff, [none], .nbr rfl cS, trivial, [.ro], .tt, [none], .nbr rfl cD, trivial, [.mut, .ro], .tup [.agg (GPlace.ro q), .tt], [some (.pb (GMach.ow m1)), none], .nbr rfl cq, trivial, ?_⟩
      exact ⟨[.ro], .ff, [none], .nbr rfl cS, trivial, [.ro, .ro, .ro], .ff, [none, none, none], .nbr rfl cW, trivial, [.ro], .tt, [none], .nbr rfl cD, trivial, [.mut, .ro, .ro], .bool _, [some (.pb (GMach.ow m3)), none, none], cd, trivial, .refl _, .refl _, trivial⟩
    · have cW : Con 44 [.int .i64 i.op, .int .i64 7, .int .i64 13] (.bool true) [none, none, none] := by have c := impl_within i.op 7 13; rw [inI_t (by omega)] at c; exact c
      obtain ⟨m3, h3, cd⟩ := impl_single m1 i.op q hm1 hQ ⟨by omega, by omega⟩
      refine MethC.of (r2 := sglV m1 i.op q) (by rw [doV, if_neg h6, if_pos h15, hv]; dsimp only; rw [if_neg h14]) m3 h3 ?_
      refine conI [] preAll (fun _ => false) Try.func43 (fun _ h => by cases h) ?_
      refine ⟨[.ro], .ff, [none], .nbr rfl cS, trivial, [.ro], .tt, [none], .nbr rfl cD, trivial, [.mut, .ro], .tup [.agg (GPlace.ro q), .tt], [some (.pb (GMach.ow m1)), none], .nbr rfl cq, trivial, ?_⟩
      exact ⟨[.ro], .ff, [none], .nbr rfl cS, trivial, [.ro, .ro, .ro], .tt, [none, none, none], .nbr rfl cW, trivial, [.mut, .ro, .ro], .bool _, [some (.pb (GMach.ow m3)), none, none], cd, trivial, .refl _, .refl _, trivial⟩
theorem impl_do3a (m : GMach) (i : GIns) (hm : RightM m) (hi : InsR i) (h15 : ¬ i.op ≤ 15) (h16 : i.op = 16) : MethC 43 m [.agg (GIns.ro i)] (doV m i) := by
  have ho := hi.op
  have h6 : ¬ i.op ≤ 6 := by omega
  have cS : Con 34 [.int .i64 i.op] (.bool false) [none] := by have c := impl_hasSrc i.op; rw [inI_f (by omega)] at c; exact c
  have cD : Con 36 [.int .i64 i.op] (.bool false) [none] := by have c := impl_hasDst i.op; rw [inI_f (by omega)] at c; exact c
  have cW : Con 44 [.int .i64 i.op, .int .i64 7, .int .i64 13] (.bool false) [none, none, none] := by have c := impl_within i.op 7 13; rw [inI_f (by omega)] at c; exact c
  obtain ⟨m3, h3, cd⟩ := impl_back m i.n hm (hi.n7 (.inr h16))
  refine MethC.of (r2 := retV m i.n) (by rw [doV, if_neg h6, if_neg h15, if_pos h16]) m3 h3 ?_
  refine conI [] (fun _ => none) (fun _ => false) Try.func43 (fun _ h => by cases h) ?_
  refine ⟨[.ro], .ff, [none], .nbr rfl cS, trivial, [.ro], .ff, [none], .nbr rfl cD, trivial, [.ro], .ff, [none], .nbr rfl cS, trivial, [.ro, .ro, .ro], .ff, [none, none, none], .nbr rfl cW, trivial, [.ro], .ff, [none], .nbr rfl cD, trivial, ?_⟩
  exact ⟨fun _ => ⟨[.mut, .ro], .bool _, [some (.pb (GMach.ow m3)), none], cd, trivial, .refl _, .refl _, trivial⟩, fun h => absurd h16 (by simpa using h)⟩
theorem impl_do3b (m : GMach) (i : GIns) (hm : RightM m) (hi : InsR i) (h15 : ¬ i.op ≤ 15) (h16 : ¬ i.op = 16) (h22 : i.op = 22) : MethC 43 m [.agg (GIns.ro i)] (doV m i) := by
  have ho := hi.op
  have h6 : ¬ i.op ≤ 6 := by omega
  have cS : Con 34 [.int .i64 i.op] (.bool false) [none] := by have c := impl_hasSrc i.op; rw [inI_f (by omega)] at c; exact c
  have cD : Con 36 [.int .i64 i.op] (.bool false) [none] := by have c := impl_hasDst i.op; rw [inI_f (by omega)] at c; exact c
  have cW : Con 44 [.int .i64 i.op, .int .i64 7, .int .i64 13] (.bool false) [none, none, none] := by have c := impl_within i.op 7 13; rw [inI_f (by omega)] at c; exact c
  refine MethC.ok (m' := { m with stop := 1 }) (by rw [doV, if_neg h6, if_neg h15, if_neg h16, if_neg (by omega), if_pos h22]) ?_
  refine conI [] (fun _ => none) (fun _ => false) Try.func43 (fun _ h => by cases h) ?_
  refine ⟨[.ro], .ff, [none], .nbr rfl cS, trivial, [.ro], .ff, [none], .nbr rfl cD, trivial, [.ro], .ff, [none], .nbr rfl cS, trivial, [.ro, .ro, .ro], .ff, [none, none, none], .nbr rfl cW, trivial, [.ro], .ff, [none], .nbr rfl cD, trivial, ?_⟩
  exact ⟨fun h => absurd (by simpa using h) h16, fun _ => ⟨fun _ => ⟨.refl _, .refl _, trivial⟩, fun h => absurd h22 (by simpa using h)⟩⟩
theorem impl_do3c (m : GMach) (i : GIns) (hm : RightM m) (hi : InsR i) (h15 : ¬ i.op ≤ 15) (h16 : ¬ i.op = 16) (h22 : ¬ i.op = 22) (h23 : i.op = 23) : MethC 43 m [.agg (GIns.ro i)] (doV m i) := by
  have ho := hi.op
  have h6 : ¬ i.op ≤ 6 := by omega
  have cS : Con 34 [.int .i64 i.op] (.bool false) [none] := by have c := impl_hasSrc i.op; rw [inI_f (by omega)] at c; exact c
  have cD : Con 36 [.int .i64 i.op] (.bool false) [none] := by have c := impl_hasDst i.op; rw [inI_f (by omega)] at c; exact c
  have cW : Con 44 [.int .i64 i.op, .int .i64 7, .int .i64 13] (.bool false) [none, none, none] := by have c := impl_within i.op 7 13; rw [inI_f (by omega)] at c; exact c
  obtain ⟨m3, h3, cd⟩ := impl_call m i.n hm
  refine MethC.of (r2 := emtV m i.n) (by rw [doV, if_neg h6, if_neg h15, if_neg h16, if_neg (by omega), if_neg h22]) m3 h3 ?_
  refine conI [] (fun _ => none) (fun _ => false) Try.func43 (fun _ h => by cases h) ?_
  refine ⟨[.ro], .ff, [none], .nbr rfl cS, trivial, [.ro], .ff, [none], .nbr rfl cD, trivial, [.ro], .ff, [none], .nbr rfl cS, trivial, [.ro, .ro, .ro], .ff, [none, none, none], .nbr rfl cW, trivial, [.ro], .ff, [none], .nbr rfl cD, trivial, ?_⟩
  exact ⟨fun h => absurd (by simpa using h) h16, fun _ => ⟨fun h => absurd (by simpa using h) h22, fun _ => ⟨fun _ => ⟨[.mut, .ro], .bool _, [some (.pb (GMach.ow m3)), none], cd, trivial, .refl _, .refl _, trivial⟩, fun h => absurd h23 (by simpa using h)⟩⟩⟩
theorem impl_do3d (m : GMach) (i : GIns) (hm : RightM m) (hi : InsR i) (h15 : ¬ i.op ≤ 15) (h16 : ¬ i.op = 16) (h22 : ¬ i.op = 22) (h23 : ¬ i.op = 23) : MethC 43 m [.agg (GIns.ro i)] (doV m i) := by
  have ho := hi.op
  have h6 : ¬ i.op ≤ 6 := by omega
  have cS : Con 34 [.int .i64 i.op] (.bool false) [none] := by have c := impl_hasSrc i.op; rw [inI_f (by omega)] at c; exact c
  have cD : Con 36 [.int .i64 i.op] (.bool false) [none] := by have c := impl_hasDst i.op; rw [inI_f (by omega)] at c; exact c
  have cW : Con 44 [.int .i64 i.op, .int .i64 7, .int .i64 13] (.bool false) [none, none, none] := by have c := impl_within i.op 7 13; rw [inI_f (by omega)] at c; exact c
  have h7 : (7 : Int) < ((GInt.ros m.r).length : Int) := by rw [regs_len hm]; decide
  have r7 := reg_row hm (i := 7) (by decide) (by decide)
  have b7 := hm.reg 7
  have hn := hi.n
  have e1 : IntKind.wrap .i64 (2 * i.n) = 2 * i.n := w64 (by omega) (by omega)
  have e2 : IntKind.wrap .i64 (readR m 7 + 2 * i.n) = readR m 7 + 2 * i.n := w64 (by omega) (by omega)
  have cg := impl_goes m i.op
  refine MethC.ok (m' := bif goesV m i.op then jmpR m i.n else m) (by rw [doV, if_neg h6, if_neg h15, if_neg h16, if_pos (by omega)]) ?_
  refine conI [] (fun i => bif Nat.beq i 28 then some (0, 32) else none) (fun _ => false) Try.func43 (fun _ h => by cases h) ?_
  refine ⟨[.ro], .ff, [none], .nbr rfl cS, trivial, [.ro], .ff, [none], .nbr rfl cD, trivial, [.ro], .ff, [none], .nbr rfl cS, trivial, [.ro, .ro, .ro], .ff, [none, none, none], .nbr rfl cW, trivial, [.ro], .ff, [none], .nbr rfl cD, trivial, ?_⟩
  refine ⟨fun h => absurd (by simpa using h) h16, fun _ => ⟨fun h => absurd (by simpa using h) h22, fun _ => ⟨fun h => absurd (by simpa using h) h23, fun _ => ?_⟩⟩⟩
  cases hg : goesV m i.op with
  | true =>
    rw [hg] at cg
    exact ⟨[.mut, .ro], .tt, [some (.pb (GMach.ow m)), none], .nbr rfl cg, trivial, by decide, h7, _, r7, [.ro], .int .i64 (wr16 (readR m 7 + 2 * i.n)), [none], (by rw [e1, e2]; exact impl_Wrap _), trivial, by decide, h7, _, r7, by kernel_rfl, .refl _, .of_eq (pbR m _ _ (reg_set m 7 _)), trivial⟩
  | false =>
    rw [hg] at cg
    exact ⟨[.mut, .ro], .ff, [some (.pb (GMach.ow m)), none], .nbr rfl cg, trivial, .refl _, .refl _, trivial⟩
theorem impl_do (m : GMach) (i : GIns) (hm : RightM m) (hi : InsR i) : MethC 43 m [.agg (GIns.ro i)] (doV m i) := by
  by_cases h6 : i.op ≤ 6
  · exact impl_do1 m i hm hi h6
  by_cases h15 : i.op ≤ 15
  · exact impl_do2 m i hm hi h6 h15
  by_cases h16 : i.op = 16
  · exact impl_do3a m i hm hi h15 h16
  by_cases h22 : i.op = 22
  · exact impl_do3b m i hm hi h15 h16 h22
  by_cases h23 : i.op = 23
  · exact impl_do3c m i hm hi h15 h16 h22 h23
  · exact impl_do3d m i hm hi h15 h16 h22 h23
end Go.Proofs.VI
