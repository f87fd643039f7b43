/- Contracts of functions, and what they rest on: l08slaw. -/
import Derived.Test.YtkbdnmmnnkoenaaE7
import Derived.Test.YtkbdnmmnnkoenaaE3
set_option linter.unusedVariables false
set_option linter.unusedSimpArgs false
set_option maxRecDepth 10000
set_option maxHeartbeats 4000000
namespace Go.Proofs.VI
open Go
theorem mach_args2 {f : FuncId} {res : AV} {outs : List (Option AV)} (a b : GMach) (c : Con f [.agg (GMach.ro a), .agg (GMach.ro b)] res outs) : Con f [.agg [AV.ro 1 (toRoRows (GInt.ows a.mem)), .ro 1 (toRoRows (GInt.ows a.r)), .bool a.n, .bool a.z, .bool a.v, .bool a.c, .ro 1 (toRoRows (GInt.ows a.inp)), .ro 1 (toRoRows (GInt.ows a.out)), .int .i64 a.stop], .agg [AV.ro 1 (toRoRows (GInt.ows b.mem)), .ro 1 (toRoRows (GInt.ows b.r)), .bool b.n, .bool b.z, .bool b.v, .bool b.c, .ro 1 (toRoRows (GInt.ows b.inp)), .ro 1 (toRoRows (GInt.ows b.out)), .int .i64 b.stop]] res outs := by
  rw [mach_toRo a, mach_toRo b]; exact c
theorem mach_args1 {f : FuncId} {res : AV} {outs : List (Option AV)} (a : GMach) (c : Con f [.agg (GMach.ro a)] res outs) : Con f [.agg [AV.ro 1 (toRoRows (GInt.ows a.mem)), .ro 1 (toRoRows (GInt.ows a.r)), .bool a.n, .bool a.z, .bool a.v, .bool a.c, .ro 1 (toRoRows (GInt.ows a.inp)), .ro 1 (toRoRows (GInt.ows a.out)), .int .i64 a.stop]] res outs := by
  rw [mach_toRo a]; exact c
theorem law_Steps (code : List UInt8) (hl : code.length ≤ 9223372036854775807) (ho : ∀ y ∈ code, GByte.ok y) : Con 9 [.ro 1 (GByte.ros code)] (.bool true) [none] := by
  have cb := laws_big' code
  by_cases g : 1048576 < code.length
  · rw [decide_eq_true g] at cb
    refine con Try.func9 ?_
    exact ⟨[.ro], .tt, [none], .nbr rfl cb, trivial, .refl _, trivial⟩
  rw [decide_eq_false g] at cb
  have hb : code.length ≤ 1099511627776 := by omega
  obtain ⟨m, fm, c0⟩ := spec_DrawStep code hb
  have c1 := impl_Step m fm
  have c2 := spec_Step m fm
  have cm := spec_MachOk m fm
  have csm := laws_sameMach m fm
  cases he : machE m with
  | false =>
    rw [he] at cm
    have e : stepE m = m := by rw [stepE, he]; rfl
    rw [e] at c1 c2
    refine con Try.func9 ?_
    refine ⟨[.ro], .ff, [none], .nbr rfl cb, trivial, [.ro], .agg (GMach.ow m), [none], c0, trivial, [.ro], .agg (GMach.ow m), [none], mach_args1 m c1, ⟨GMach.noRo_ow _, trivial⟩, [.ro], .agg (GMach.ow m), [none], mach_args1 m c2, ⟨GMach.noRo_ow _, trivial⟩, [.ro, .ro], .tt, [none, none], .nbr rfl (mach_args2 m m csm), ⟨trivial, trivial⟩, by kernel_rfl, ?_⟩
    exact ⟨[.ro], .ff, [none], .nbr rfl (mach_args1 m cm), ⟨trivial, trivial⟩, [.ro, .ro], .tt, [none, none], .nbr rfl (mach_args2 m m csm), ⟨trivial, trivial⟩, .refl _, trivial⟩
  | true =>
    rw [he] at cm
    have hm : RightM m := Classical.byContradiction fun hn => by rw [machE, dec_false hn] at he; cases he
    by_cases hs : m.stop = 0
    case neg =>
      have e : stepE m = m := by rw [stepE, he, decide_eq_false hs]; rfl
      rw [e] at c1 c2
      refine con Try.func9 ?_
      refine ⟨[.ro], .ff, [none], .nbr rfl cb, trivial, [.ro], .agg (GMach.ow m), [none], c0, trivial, [.ro], .agg (GMach.ow m), [none], mach_args1 m c1, ⟨GMach.noRo_ow _, trivial⟩, [.ro], .agg (GMach.ow m), [none], mach_args1 m c2, ⟨GMach.noRo_ow _, trivial⟩, [.ro, .ro], .tt, [none, none], .nbr rfl (mach_args2 m m csm), ⟨trivial, trivial⟩, by kernel_rfl, ?_⟩
      refine ⟨[.ro], .tt, [none], .nbr rfl (mach_args1 m cm), ⟨trivial, trivial⟩, fun _ => ?_, fun h => absurd h (by simpa using hs)⟩
      exact ⟨[.ro, .ro], .tt, [none, none], .nbr rfl (mach_args2 m m csm), ⟨trivial, trivial⟩, .refl _, trivial⟩
    case pos =>
      have e : stepE m = stepV m := stepE_right hm hs
      have hR := stepV_right hm
      rw [e] at c1 c2
      rcases step_keeps hs with h2 | ⟨h2, h3, h4⟩
      · have cs2 := laws_sameMach (stepV m) hR.fit
        rw [h2] at c1 c2 cs2
        refine con Try.func9 ?_
        refine ⟨[.ro], .ff, [none], .nbr rfl cb, trivial, [.ro], .agg (GMach.ow m), [none], c0, trivial, [.ro], .agg (GMach.ow { m with stop := 2 }), [none], mach_args1 m c1, ⟨GMach.noRo_ow _, trivial⟩, [.ro], .agg (GMach.ow { m with stop := 2 }), [none], mach_args1 m c2, ⟨GMach.noRo_ow _, trivial⟩, [.ro, .ro], .tt, [none, none], .nbr rfl (mach_args2 { m with stop := 2 } { m with stop := 2 } cs2), ⟨trivial, trivial⟩, by kernel_rfl, ?_⟩
        refine ⟨[.ro], .tt, [none], .nbr rfl (mach_args1 m cm), ⟨trivial, trivial⟩, fun h => absurd hs (by simpa using h), fun _ => ⟨fun _ => ?_, fun h => absurd h (by simp)⟩⟩
        exact ⟨[.ro, .ro], .tt, [none, none], .nbr rfl (mach_args2 m m csm), ⟨trivial, trivial⟩, .refl _, trivial⟩
      · have cs2 := laws_sameMach (stepV m) hR.fit
        have cM := impl_MachOk (stepV m) hR.fit
        rw [show machE (stepV m) = true from dec_true hR] at cM
        refine con Try.func9 ?_
        refine ⟨[.ro], .ff, [none], .nbr rfl cb, trivial, [.ro], .agg (GMach.ow m), [none], c0, trivial, [.ro], .agg (GMach.ow (stepV m)), [none], mach_args1 m c1, ⟨GMach.noRo_ow _, trivial⟩, [.ro], .agg (GMach.ow (stepV m)), [none], mach_args1 m c2, ⟨GMach.noRo_ow _, trivial⟩, [.ro, .ro], .tt, [none, none], .nbr rfl (mach_args2 (stepV m) (stepV m) cs2), ⟨trivial, trivial⟩, by kernel_rfl, ?_⟩
        refine ⟨[.ro], .tt, [none], .nbr rfl (mach_args1 m cm), ⟨trivial, trivial⟩, fun h => absurd hs (by simpa using h), fun _ => ⟨fun h => absurd (by simpa using h) h2, fun _ => ?_⟩⟩
        have l1 : (GInt.ows m.out).length = m.out.length := by simp
        have l2 : (GInt.ows (stepV m).out).length = (stepV m).out.length := by simp
        have l3 : (GInt.ows m.inp).length = m.inp.length := by simp
        have l4 : (GInt.ows (stepV m).inp).length = (stepV m).inp.length := by simp
        refine ⟨[.ro], .tt, [none], .nbr rfl (mach_args1 (stepV m) cM), ⟨trivial, trivial⟩, fun _ => ⟨.of_eq (congrArg AV.bool (decide_eq_true ?_)), trivial⟩, fun h => absurd (of_decide_eq_false h) (Classical.not_not.2 ?_)⟩
        · rw [l3, l4]; omega
        · rw [l1, l2]; omega
end Go.Proofs.VI
