/- Contracts of functions, and what they rest on: l07step. -/
import Derived.Test.YtkbdnmmnnkoenaaM13
set_option linter.unusedVariables false
set_option linter.unusedSimpArgs false
set_option maxRecDepth 10000
set_option maxHeartbeats 4000000
namespace Go.Proofs.VI
open Go
theorem opV_rng (w : Int) : 0 ≤ opV w ∧ opV w ≤ 23 := by
  unfold opV
  split
  · rename_i i h
    have := List.mem_range.1 (List.mem_of_find?_eq_some h)
    omega
  · decide
theorem insV_right (w op : Int) (h : 1 ≤ op ∧ op ≤ 23) : InsR (insV w op) := by
  refine ⟨h, ?_, ?_, ?_, ?_, ?_, ?_⟩
  · unfold insV; dsimp only; split
    · dsimp only; omega
    · exact ⟨by decide, by decide⟩
  · unfold insV; dsimp only; split
    · dsimp only; omega
    · exact ⟨by decide, by decide⟩
  · unfold insV; dsimp only; split
    · dsimp only; omega
    · exact ⟨by decide, by decide⟩
  · unfold insV; dsimp only; split
    · dsimp only; omega
    · exact ⟨by decide, by decide⟩
  · show -256 ≤ numV w op ∧ numV w op ≤ 256
    unfold numV relN
    repeat' split
    all_goals omega
  · show op = 15 ∨ op = 16 → 0 ≤ numV w op ∧ numV w op ≤ 7
    intro h
    unfold numV
    rcases h with h | h <;> subst h
    · rw [if_pos rfl]; omega
    · rw [if_neg (by decide), if_pos rfl]; omega
theorem withX_right {l : List Int} {p : Nat} {x : GIns} (h : InsR x) : InsR (withX l p x) := by
  unfold withX
  repeat' split
  all_goals exact ⟨h.op, h.s, h.sm, h.d, h.dm, h.n, h.n7⟩
theorem decV_right {l : List Int} {p : Nat} {x : GIns} {k : Int} (h : decV l p = some (x, k)) : InsR x := by
  have ho := opV_rng (l.getD p 0)
  unfold decV at h
  split at h
  · cases h
  · rename_i h0
    split at h
    · cases h
    · injection h with h
      injection h with h1 _
      subst h1
      exact withX_right (insV_right _ _ (by omega))
def nextM (m : GMach) : GMach := setR m 7 (wr16 (readR m 7 + 2))
def stepV (m : GMach) : GMach :=
  if adr (readR m 7) = true then (match decV m.mem (readR m 7 / 2).toNat with
    | none => { m with stop := 2 }
    | some x => (match doV (nextM m) x.1 with
      | none => { m with stop := 2 }
      | some m' => m'))
  else { m with stop := 2 }
noncomputable def stepE (m : GMach) : GMach := bif machE m && decide (m.stop = 0) then stepV m else m
theorem impl_Step (m : GMach) (fm : GMach.fit m) : Con 14 [.agg (GMach.ro m)] (.agg (GMach.ow (stepE m))) [none] := by
  have cM := impl_MachOk m fm
  have cC := impl_copyMach m fm
  cases he : machE m with
  | false =>
    rw [he] at cM
    have e : stepE m = m := by rw [stepE, he]; rfl
    rw [e]
    refine con Try.func14 ?_
    exact ⟨[.ro], .agg (GMach.ow m), [none], cC, trivial, [.ro], .ff, [none], .nbr rfl cM, trivial, .refl _, trivial⟩
  | true =>
    rw [he] at cM
    have hm : RightM m := Classical.byContradiction fun hn => by rw [machE, dec_false hn] at he; cases he
    by_cases hs : m.stop = 0
    case neg =>
      have e : stepE m = m := by rw [stepE, he, decide_eq_false hs]; rfl
      rw [e]
      refine con Try.func14 ?_
      refine ⟨[.ro], .agg (GMach.ow m), [none], cC, trivial, [.ro], .tt, [none], .nbr rfl cM, trivial, fun _ => ⟨.refl _, trivial⟩, fun h => ?_⟩
      simp at h; exact absurd h hs
    have e : stepE m = stepV m := by rw [stepE, he, decide_eq_true hs]; rfl
    rw [e]
    have h7 : (7 : Int) < ((GInt.ros m.r).length : Int) := by rw [regs_len hm]; decide
    have r7 := reg_row hm (i := 7) (by decide) (by decide)
    have b7 := hm.reg 7
    cases ha : adr (readR m 7) with
    | false =>
      have cA : Con 37 [.int .i64 (readR m 7)] (.bool false) [none] := by have c := impl_isAddr (readR m 7); rw [ha] at c; exact c
      have e : stepV m = { m with stop := 2 } := by rw [stepV, ha]; rfl
      rw [e]
      refine con Try.func14 ?_
      refine ⟨[.ro], .agg (GMach.ow m), [none], cC, trivial, [.ro], .tt, [none], .nbr rfl cM, trivial, fun h => ?_, fun _ => ?_⟩
      · simp at h; exact absurd hs h
      refine ⟨[.ro], .agg (GMach.ow m), [none], cC, trivial, by decide, _, r7, [.ro], .ff, [none], .nbr rfl cA, trivial, ?_⟩
      exact ⟨.refl _, trivial⟩
    | true =>
      have cA : Con 37 [.int .i64 (readR m 7)] (.bool true) [none] := by have c := impl_isAddr (readR m 7); rw [ha] at c; exact c
      have hin := inI_true.1 (by have h := ha; simp only [adr, Bool.and_eq_true] at h; exact h.1)
      have eq2 : IntKind.wrap .i64 ((readR m 7).tdiv 2) = (((readR m 7 / 2).toNat : Nat) : Int) := by rw [tdiv2 hin.1, w64 (by omega) (by omega)]; omega
      have cd := impl_Decode m.mem (readR m 7 / 2).toNat (by rw [hm.mem]; decide) hm.wm (by rw [hm.mem]; omega)
      have w7 : IntKind.wrap .i64 (readR m 7 + 2) = readR m 7 + 2 := w64 (by omega) (by omega)
      have hm7 : RightM (nextM m) := hm.setR 7 (wr16_in _)
      cases hd : decV m.mem (readR m 7 / 2).toNat with
      | none =>
        rw [hd] at cd
        have e : stepV m = { m with stop := 2 } := by rw [stepV, if_pos ha, hd]
        rw [e]
        refine con Try.func14 ?_
        refine ⟨[.ro], .agg (GMach.ow m), [none], cC, trivial, [.ro], .tt, [none], .nbr rfl cM, trivial, fun h => ?_, fun _ => ?_⟩
        · simp at h; exact absurd hs h
        refine ⟨[.ro], .agg (GMach.ow m), [none], cC, trivial, by decide, _, r7, [.ro], .tt, [none], .nbr rfl cA, trivial, ?_⟩
        refine ⟨by decide, _, r7, by decide, [.ro, .ro], .tup [.agg (GIns.ow ⟨0, zOpd, zOpd, 0⟩), .int .i64 0, .ff], [none, none], (by rw [eq2]; exact .nbr rfl cd), trivial, by kernel_rfl, ?_⟩
        refine ⟨by decide, _, r7, [.ro], .int .i64 (wr16 (readR m 7 + 2)), [none], (by rw [w7]; exact impl_Wrap _), trivial, by decide, h7, _, r7, by kernel_rfl, ?_⟩
        exact ⟨.refl _, trivial⟩
      | some r =>
        obtain ⟨x, k⟩ := r
        rw [hd] at cd
        have hx := decV_right hd
        obtain ⟨m3, h3, cx⟩ := impl_do (nextM m) x hm7 hx
        have e : stepV m = match doV (nextM m) x with | none => { m with stop := 2 } | some m' => m' := by rw [stepV, if_pos ha, hd]
        rw [e]
        have cx2 := cx
        rw [← pbR m _ (nextM m) (reg_set m 7 (wr16 (readR m 7 + 2)))] at cx2
        cases hdo : doV (nextM m) x with
        | none =>
          rw [hdo] at cx2
          refine con Try.func14 ?_
          refine ⟨[.ro], .agg (GMach.ow m), [none], cC, trivial, [.ro], .tt, [none], .nbr rfl cM, trivial, fun h => ?_, fun _ => ?_⟩
          · simp at h; exact absurd hs h
          refine ⟨[.ro], .agg (GMach.ow m), [none], cC, trivial, by decide, _, r7, [.ro], .tt, [none], .nbr rfl cA, trivial, ?_⟩
          refine ⟨by decide, _, r7, by decide, [.ro, .ro], .tup [.agg (GIns.ow x), .int .i64 k, .tt], [none, none], (by rw [eq2]; exact .nbr rfl cd), trivial, by kernel_rfl, ?_⟩
          refine ⟨by decide, _, r7, [.ro], .int .i64 (wr16 (readR m 7 + 2)), [none], (by rw [w7]; exact impl_Wrap _), trivial, by decide, h7, _, r7, by kernel_rfl, ?_⟩
          exact ⟨[.mut, .ro], .ff, [some (.pb (GMach.ow m3)), none], .nbr rfl cx2, trivial, .refl _, trivial⟩
        | some m' =>
          have em := h3 m' hdo
          subst em
          rw [hdo] at cx2
          refine con Try.func14 ?_
          refine ⟨[.ro], .agg (GMach.ow m), [none], cC, trivial, [.ro], .tt, [none], .nbr rfl cM, trivial, fun h => ?_, fun _ => ?_⟩
          · simp at h; exact absurd hs h
          refine ⟨[.ro], .agg (GMach.ow m), [none], cC, trivial, by decide, _, r7, [.ro], .tt, [none], .nbr rfl cA, trivial, ?_⟩
          refine ⟨by decide, _, r7, by decide, [.ro, .ro], .tup [.agg (GIns.ow x), .int .i64 k, .tt], [none, none], (by rw [eq2]; exact .nbr rfl cd), trivial, by kernel_rfl, ?_⟩
          refine ⟨by decide, _, r7, [.ro], .int .i64 (wr16 (readR m 7 + 2)), [none], (by rw [w7]; exact impl_Wrap _), trivial, by decide, h7, _, r7, by kernel_rfl, ?_⟩
          exact ⟨[.mut, .ro], .tt, [some (.pb (GMach.ow m')), none], .nbr rfl cx2, trivial, .refl _, trivial⟩
end Go.Proofs.VI
