/- Contracts of functions, and what they rest on: l07steps. -/
import Derived.Test.YtkbdnmmnnkoenaaM14
set_option linter.unusedVariables false
set_option linter.unusedSimpArgs false
set_option maxRecDepth 10000
set_option maxHeartbeats 4000000
namespace Go.Proofs.VI
open Go
def preS (i : Nat) : Option (Nat × TypeId) := bif Nat.beq i 1 then some (2, 32) else none
theorem spec_l7Step (m : GMach) (hm : RightM m) : Con 48 [.pb (GMach.ow m)] (.tup []) [some (.pb (GMach.ow (stepV m)))] := by
  have cC := spec_l5Copy m hm.fit
  have h7 : (7 : Int) < ((GInt.ros m.r).length : Int) := by rw [regs_len hm]; decide
  have r7 := reg_row hm (i := 7) (by decide) (by decide)
  have b7 := hm.reg 7
  have cr := spec_ReadW m (readR m 7) (by rw [hm.mem]; decide)
  cases ha : adr (readR m 7) with
  | false =>
    have hr : readV m (readR m 7) = none := by rw [readV, if_neg (by rw [ha]; simp)]
    rw [hr] at cr
    have e : stepV m = { m with stop := 2 } := by rw [stepV, ha]; rfl
    rw [e]
    refine conI [] preS (fun _ => false) Try.func48 (fun _ h => by cases h) ?_
    refine ⟨[.ro], .agg (GMach.ow m), [none], (by rw [mach_toRo]; exact cC), ⟨GMach.noRo_ow _, trivial⟩, ?_⟩
    refine ⟨by decide, h7, _, r7, [.ro, .ro], .tup [.int .i64 0, .ff], [none, none], (by rw [mach_toRo]; exact .nbr rfl cr), ⟨⟨trivial, trivial, trivial⟩, trivial⟩, by kernel_rfl, ?_⟩
    exact ⟨.refl _, .refl _, trivial⟩
  | true =>
    have hin := inI_true.1 (by have h := ha; simp only [adr, Bool.and_eq_true] at h; exact h.1)
    have hr : readV m (readR m 7) = some (m.mem.getD (readR m 7 / 2).toNat 0) := by rw [readV, if_pos ⟨ha, by rw [hm.mem]; omega⟩]
    rw [hr] at cr
    have eq2 : IntKind.wrap .i64 ((readR m 7).tdiv 2) = (((readR m 7 / 2).toNat : Nat) : Int) := by rw [tdiv2 hin.1, w64 (by omega) (by omega)]; omega
    have cd := spec_Decode m.mem (readR m 7 / 2).toNat (by rw [hm.mem]; decide) hm.wm (by rw [hm.mem]; omega)
    have w7 : IntKind.wrap .i64 (readR m 7 + 2) = readR m 7 + 2 := w64 (by omega) (by omega)
    have hm7 : RightM (nextM m) := hm.setR 7 (wr16_in _)
    cases hd : decV m.mem (readR m 7 / 2).toNat with
    | none =>
      rw [hd] at cd
      have e : stepV m = { m with stop := 2 } := by rw [stepV, if_pos ha, hd]
      rw [e]
      refine conI [] preS (fun _ => false) Try.func48 (fun _ h => by cases h) ?_
      refine ⟨[.ro], .agg (GMach.ow m), [none], (by rw [mach_toRo]; exact cC), ⟨GMach.noRo_ow _, trivial⟩, ?_⟩
      refine ⟨by decide, h7, _, r7, [.ro, .ro], .tup [.int .i64 (m.mem.getD (readR m 7 / 2).toNat 0), .tt], [none, none], (by rw [mach_toRo]; exact .nbr rfl cr), ⟨⟨trivial, trivial, trivial⟩, trivial⟩, by kernel_rfl, ?_⟩
      refine ⟨by decide, h7, _, r7, by decide, [.ro, .ro], .tup [.agg (GIns.ow ⟨0, zOpd, zOpd, 0⟩), .int .i64 0, .ff], [none, none], (by rw [eq2, GInt.roo]; exact .nbr rfl cd), ⟨⟨GIns.noRo_ow _, trivial, trivial, trivial⟩, trivial⟩, by kernel_rfl, ?_⟩
      exact ⟨.refl _, .refl _, trivial⟩
    | some r =>
      obtain ⟨x, k⟩ := r
      rw [hd] at cd
      have hx := decV_right hd
      obtain ⟨m3, h3, cx⟩ := spec_l7Do (nextM m) x hm7 hx
      have e : stepV m = match doV (nextM m) x with | none => { m with stop := 2 } | some m' => m' := by unfold stepV; rw [if_pos ha, hd]; rfl
      rw [e]
      rw [← pbR m _ (nextM m) (reg_set m 7 (wr16 (readR m 7 + 2)))] at cx
      cases hdo : doV (nextM m) x with
      | none =>
        rw [hdo] at cx
        refine conI [] preS (fun _ => false) Try.func48 (fun _ h => by cases h) ?_
        refine ⟨[.ro], .agg (GMach.ow m), [none], (by rw [mach_toRo]; exact cC), ⟨GMach.noRo_ow _, trivial⟩, ?_⟩
        refine ⟨by decide, h7, _, r7, [.ro, .ro], .tup [.int .i64 (m.mem.getD (readR m 7 / 2).toNat 0), .tt], [none, none], (by rw [mach_toRo]; exact .nbr rfl cr), ⟨⟨trivial, trivial, trivial⟩, trivial⟩, by kernel_rfl, ?_⟩
        refine ⟨by decide, h7, _, r7, by decide, [.ro, .ro], .tup [.agg (GIns.ow x), .int .i64 k, .tt], [none, none], (by rw [eq2, GInt.roo]; exact .nbr rfl cd), ⟨⟨GIns.noRo_ow _, trivial, trivial, trivial⟩, trivial⟩, by kernel_rfl, ?_⟩
        refine ⟨by decide, h7, _, r7, [.ro], .int .i64 (wr16 (readR m 7 + 2)), [none], (by rw [w7]; exact spec_Wrap _), trivial, by decide, h7, _, r7, by kernel_rfl, ?_⟩
        exact ⟨[.mut, .ro], .ff, [some (.pb (GMach.ow m3)), none], .nbr rfl cx, trivial, .refl _, .refl _, trivial⟩
      | some m' =>
        have em := h3 m' hdo
        subst em
        rw [hdo] at cx
        refine conI [] preS (fun _ => false) Try.func48 (fun _ h => by cases h) ?_
        refine ⟨[.ro], .agg (GMach.ow m), [none], (by rw [mach_toRo]; exact cC), ⟨GMach.noRo_ow _, trivial⟩, ?_⟩
        refine ⟨by decide, h7, _, r7, [.ro, .ro], .tup [.int .i64 (m.mem.getD (readR m 7 / 2).toNat 0), .tt], [none, none], (by rw [mach_toRo]; exact .nbr rfl cr), ⟨⟨trivial, trivial, trivial⟩, trivial⟩, by kernel_rfl, ?_⟩
        refine ⟨by decide, h7, _, r7, by decide, [.ro, .ro], .tup [.agg (GIns.ow x), .int .i64 k, .tt], [none, none], (by rw [eq2, GInt.roo]; exact .nbr rfl cd), ⟨⟨GIns.noRo_ow _, trivial, trivial, trivial⟩, trivial⟩, by kernel_rfl, ?_⟩
        refine ⟨by decide, h7, _, r7, [.ro], .int .i64 (wr16 (readR m 7 + 2)), [none], (by rw [w7]; exact spec_Wrap _), trivial, by decide, h7, _, r7, by kernel_rfl, ?_⟩
        exact ⟨[.mut, .ro], .tt, [some (.pb (GMach.ow m')), none], .nbr rfl cx, trivial, .refl _, .refl _, trivial⟩
theorem spec_Step (m : GMach) (fm : GMach.fit m) : Con 24 [.agg (GMach.ro m)] (.agg (GMach.ow (stepE m))) [none] := by
  have cM := spec_MachOk m fm
  have cC := spec_l5Copy m fm
  cases he : machE m with
  | false =>
    rw [he] at cM
    have e : stepE m = m := by rw [stepE, he]; rfl
    rw [e]
    refine con Try.func24 ?_
    exact ⟨[.ro], .agg (GMach.ow m), [none], cC, trivial, [.ro], .ff, [none], .nbr rfl cM, trivial, .refl _, trivial⟩
  | true =>
    rw [he] at cM
    have hm : RightM m := Classical.byContradiction fun hn => by rw [machE, dec_false hn] at he; cases he
    by_cases hs : m.stop = 0
    case neg =>
      have e : stepE m = m := by rw [stepE, he, decide_eq_false hs]; rfl
      rw [e]
      refine con Try.func24 ?_
      exact ⟨[.ro], .agg (GMach.ow m), [none], cC, trivial, [.ro], .tt, [none], .nbr rfl cM, trivial, fun h => absurd (by simpa using h) hs, fun _ => ⟨.refl _, trivial⟩⟩
    have e : stepE m = stepV m := by rw [stepE, he, decide_eq_true hs]; rfl
    rw [e]
    refine con Try.func24 ?_
    exact ⟨[.ro], .agg (GMach.ow m), [none], cC, trivial, [.ro], .tt, [none], .nbr rfl cM, trivial, fun _ => ⟨[.mut], .tup [], [some (.pb (GMach.ow (stepV m)))], spec_l7Step m hm, trivial, .refl _, trivial⟩, fun h => absurd hs (by simpa using h)⟩
end Go.Proofs.VI
