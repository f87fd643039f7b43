/- Contracts of functions, and what they rest on: l18ok. -/
import Derived.Test.YtjlonhiojgljcaaGreatG4
set_option linter.unusedVariables false
set_option linter.unusedSimpArgs false
set_option maxRecDepth 10000
set_option maxHeartbeats 4000000
namespace Go.Proofs.VI
open Go
def modP (l : List GLibMod) (i : Nat) : Prop := ∀ h : i < l.length, (gO (modO l[i].b)).2 = true ∧ isNm l[i].name = true ∧ (0 < i → Op.bytesLess (l[i - 1]'(by omega)).name.toList l[i].name.toList = true)
def libP (l : List GLibMod) : Prop := (l.length : Int) ≤ 12 ∧ ∀ i, i < l.length → modP l i
noncomputable def libE (l : List GLibMod) : Bool := dec (libP l)
theorem mod_row {l : List GLibMod} {i : Nat} (h : i < l.length) : (GLibMod.ros l)[i]? = some (GLibMod.ro l[i]) := map_get _ _ h
theorem libE_bad {l : List GLibMod} {i : Nat} (h : i < l.length) (hn : ¬ modP l i) : libE l = false := dec_false fun x => hn (x.2 i h)
theorem impl_LibOk (a : GLib) (fa : GLib.fit a) (oa : GLib.ok a) : Con 70 [.agg (GLib.ro a)] (.bool (libE a.mods)) [none] := by
  have ua := GLib.fit_un fa
  have va := GLib.ok_un oa
  have lm : (GLibMod.ros a.mods).length = a.mods.length := by simp
  refine con Tryz.func70 ?_
  refine ⟨{ i : Nat // i ≤ a.mods.length ∧ ∀ j, j < i → modP a.mods j }, fun i => ⟨[(1, .ptr 0 0 0), (8, .ro 2 (GLibMod.ros a.mods)), (9, .int .i64 a.mods.length), (10, .int .i64 i.1)], [(0, .box (GLib.ro a) [])]⟩, fun i => a.mods.length - i.1, ⟨0, Nat.zero_le _, fun j h2 => absurd h2 (Nat.not_lt_zero _)⟩, ?_, ?_⟩
  · exact ⟨rfl, rfl, rfl, congrArg (AV.int .i64) (by rw [lm]), rfl, .refl _, trivial⟩
  · rintro ⟨i, hi, hb⟩
    dsimp only
    refine ⟨fun h => ?_, fun h => ?_⟩ <;> simp only [decide_eq_true_eq, decide_eq_false_iff_not] at h
    · have hi : i < a.mods.length := by omega
      have um := GLibMod.fit_un (ua.2 _ (List.getElem_mem hi))
      have vm := GLibMod.ok_un (va.2 _ (List.getElem_mem hi))
      have hr := mod_row hi
      have bad : ¬ modP a.mods i → false = libE a.mods := fun g => (libE_bad hi g).symm
      refine ⟨Int.natCast_nonneg _, _, hr, ?_⟩
      refine ⟨[.ro], .tup [.agg (GObj.ow (gO (modO a.mods[i].b)).1), .bool (gO (modO a.mods[i].b)).2], [none], impl_GetObj a.mods[i].b um.1, trivial, ?_⟩
      have c := impl_isName a.mods[i].name vm.1
      generalize hG : (gO (modO a.mods[i].b)).2 = G
      rcases Nat.eq_zero_or_pos i with h0 | h0
      · have e0 : decide ((0 : Int) < i) = false := decide_eq_false (by omega)
        have good : G = true ∧ isNm a.mods[i].name = true → ∀ j, j < i + 1 → modP a.mods j := fun g => le_succ hb fun _ => ⟨hG.trans g.1, g.2, fun h => absurd h (by omega)⟩
        have bad : ¬ (G = true ∧ isNm a.mods[i].name = true) → false = libE a.mods := fun g => bad fun x => g ⟨hG.symm.trans (x hi).1, (x hi).2.1⟩
        repeat' (first | (exfalso; rw [e0] at h; cases h; done) | refine And.intro (fun (h : _ = true) => ?_) (fun (h : _ = false) => ?_) | refine And.intro (fun (h : _ = false) => ?_) (fun (h : _ = true) => ?_) | refine And.intro (show regOk _ _ = true from by kernel_rfl) ?_ | refine And.intro (Sim.of_eq (congrArg AV.bool ?_)) trivial | (refine ⟨⟨i + 1, hi, good ?_⟩, Nat.sub_succ_lt_self _ _ hi, ?wk⟩; case wk => (repeat' (first | exact trivial | (refine And.intro (congrArg (AV.int .i64) (w64 ?_ ?_)) ?_; omega; omega) | refine And.intro rfl ?_ | refine And.intro (SimRows.refl _) ?_ | (refine And.intro (SimRows.of_eq ?_) ?_; (first | assumption | rfl)) | (refine And.intro (congrArg (AV.int .i64) ?_) ?_; (first | assumption | omega)) | fail)); done) | refine ⟨[.ro], .bool _, [none], c, trivial, ?_⟩ | fail)
        all_goals clear c um vm ua va oa fa hr lm hb good
        all_goals first
          | (refine bad ?_; simp_all; done)
          | (clear bad; simp_all; done)
      · have hlt : i - 1 < a.mods.length := by omega
        have e0 : decide ((0 : Int) < i) = true := decide_eq_true (by omega)
        have e1 : IntKind.wrap .i64 ((i : Int) - 1) = ((i - 1 : Nat) : Int) := (w64 (by omega) (by omega)).trans (by omega)
        have h1 : 0 ≤ IntKind.wrap .i64 ((i : Int) - 1) := by rw [e1]; omega
        have hr1 : (GLibMod.ros a.mods)[(IntKind.wrap .i64 ((i : Int) - 1)).toNat]? = some (GLibMod.ro (a.mods[i - 1]'hlt)) := by rw [e1]; exact mod_row _
        have good : (G = true ∧ isNm a.mods[i].name = true) ∧ Op.bytesLess (a.mods[i - 1]'hlt).name.toList a.mods[i].name.toList = true → ∀ j, j < i + 1 → modP a.mods j := fun g => le_succ hb fun _ => ⟨hG.trans g.1.1, g.1.2, fun _ => g.2⟩
        have bad : ¬ ((G = true ∧ isNm a.mods[i].name = true) ∧ Op.bytesLess (a.mods[i - 1]'hlt).name.toList a.mods[i].name.toList = true) → false = libE a.mods := fun g => bad fun x => g ⟨⟨hG.symm.trans (x hi).1, (x hi).2.1⟩, (x hi).2.2 h0⟩
        repeat' (first | (exfalso; rw [e0] at h; cases h; done) | refine And.intro (fun (h : _ = true) => ?_) (fun (h : _ = false) => ?_) | refine And.intro (fun (h : _ = false) => ?_) (fun (h : _ = true) => ?_) | refine And.intro (show regOk _ _ = true from by kernel_rfl) ?_ | refine And.intro (Sim.of_eq (congrArg AV.bool ?_)) trivial | (refine ⟨⟨i + 1, hi, good ?_⟩, Nat.sub_succ_lt_self _ _ hi, ?wk⟩; case wk => (repeat' (first | exact trivial | (refine And.intro (congrArg (AV.int .i64) (w64 ?_ ?_)) ?_; omega; omega) | refine And.intro rfl ?_ | refine And.intro (SimRows.refl _) ?_ | (refine And.intro (SimRows.of_eq ?_) ?_; (first | assumption | rfl)) | (refine And.intro (congrArg (AV.int .i64) ?_) ?_; (first | assumption | omega)) | fail)); done) | refine ⟨h1, _, hr1, ?_⟩ | refine ⟨[.ro], .bool _, [none], c, trivial, ?_⟩ | fail)
        all_goals clear c um vm ua va oa fa hr lm hb good
        all_goals first
          | (refine bad ?_; simp_all; done)
          | (clear bad; simp_all; done)
    · refine ⟨.of_eq (congrArg AV.bool ?_), trivial⟩
      have hb : ∀ j, j < a.mods.length → modP a.mods j := fun j hj => hb j (by omega)
      rw [lm]
      by_cases hl : (a.mods.length : Int) ≤ 12
      · rw [decide_eq_true hl]; exact (dec_true ⟨hl, hb⟩).symm
      · rw [decide_eq_false hl]; exact (dec_false fun x => hl x.1).symm
theorem spec_LibOk (a : GLib) (fa : GLib.fit a) (oa : GLib.ok a) : Con 67 [.agg (GLib.ro a)] (.bool (libE a.mods)) [none] := by
  have ua := GLib.fit_un fa
  have va := GLib.ok_un oa
  have lm : (GLibMod.ros a.mods).length = a.mods.length := by simp
  refine con Tryz.func67 ?_
  refine ⟨{ i : Nat // i ≤ a.mods.length ∧ ∀ j, j < i → modP a.mods j }, fun i => ⟨[(1, .ptr 0 0 0), (3, .int .i64 i.1)], [(0, .box (GLib.ro a) [])]⟩, fun i => a.mods.length - i.1, ⟨0, Nat.zero_le _, fun j h2 => absurd h2 (Nat.not_lt_zero _)⟩, ?_, ?_⟩
  · exact ⟨rfl, rfl, rfl, .refl _, trivial⟩
  · rintro ⟨i, hi, hb⟩
    dsimp only
    refine ⟨fun h => ?_, fun h => ?_⟩ <;> simp only [lm, decide_eq_true_eq, decide_eq_false_iff_not] at h
    · have hi : i < a.mods.length := by omega
      have um := GLibMod.fit_un (ua.2 _ (List.getElem_mem hi))
      have vm := GLibMod.ok_un (va.2 _ (List.getElem_mem hi))
      have hr := mod_row hi
      have bad : ¬ modP a.mods i → false = libE a.mods := fun g => (libE_bad hi g).symm
      refine ⟨Int.natCast_nonneg _, _, hr, ?_⟩
      refine ⟨[.ro], .tup [.agg (GObj.ow (gO (modO a.mods[i].b)).1), .bool (gO (modO a.mods[i].b)).2], [none], spec_GetObj a.mods[i].b um.1, trivial, ?_⟩
      have c := spec_l9Name a.mods[i].name vm.1
      generalize hG : (gO (modO a.mods[i].b)).2 = G
      rcases Nat.eq_zero_or_pos i with h0 | h0
      · have e0 : decide ((0 : Int) < i) = false := decide_eq_false (by omega)
        have good : G = true ∧ isNm a.mods[i].name = true → ∀ j, j < i + 1 → modP a.mods j := fun g => le_succ hb fun _ => ⟨hG.trans g.1, g.2, fun h => absurd h (by omega)⟩
        have bad : ¬ (G = true ∧ isNm a.mods[i].name = true) → false = libE a.mods := fun g => bad fun x => g ⟨hG.symm.trans (x hi).1, (x hi).2.1⟩
        repeat' (first | (exfalso; rw [e0] at h; cases h; done) | refine And.intro (fun (h : _ = true) => ?_) (fun (h : _ = false) => ?_) | refine And.intro (fun (h : _ = false) => ?_) (fun (h : _ = true) => ?_) | refine And.intro (show regOk _ _ = true from by kernel_rfl) ?_ | refine And.intro (Sim.of_eq (congrArg AV.bool ?_)) trivial | (refine ⟨⟨i + 1, hi, good ?_⟩, Nat.sub_succ_lt_self _ _ hi, ?wk⟩; case wk => (repeat' (first | exact trivial | (refine And.intro (congrArg (AV.int .i64) (w64 ?_ ?_)) ?_; omega; omega) | refine And.intro rfl ?_ | refine And.intro (SimRows.refl _) ?_ | (refine And.intro (SimRows.of_eq ?_) ?_; (first | assumption | rfl)) | (refine And.intro (congrArg (AV.int .i64) ?_) ?_; (first | assumption | omega)) | fail)); done) | refine ⟨Int.natCast_nonneg _, _, hr, ?_⟩ | refine ⟨[.ro], .bool _, [none], c, trivial, ?_⟩ | fail)
        all_goals clear c um vm ua va oa fa hr lm hb good
        all_goals first
          | (refine bad ?_; simp_all; done)
          | (clear bad; simp_all; done)
      · have hlt : i - 1 < a.mods.length := by omega
        have e0 : decide ((0 : Int) < i) = true := decide_eq_true (by omega)
        have e1 : IntKind.wrap .i64 ((i : Int) - 1) = ((i - 1 : Nat) : Int) := (w64 (by omega) (by omega)).trans (by omega)
        have h1 : 0 ≤ IntKind.wrap .i64 ((i : Int) - 1) := by rw [e1]; omega
        have hr1 : (GLibMod.ros a.mods)[(IntKind.wrap .i64 ((i : Int) - 1)).toNat]? = some (GLibMod.ro (a.mods[i - 1]'hlt)) := by rw [e1]; exact mod_row _
        have good : (G = true ∧ isNm a.mods[i].name = true) ∧ Op.bytesLess (a.mods[i - 1]'hlt).name.toList a.mods[i].name.toList = true → ∀ j, j < i + 1 → modP a.mods j := fun g => le_succ hb fun _ => ⟨hG.trans g.1.1, g.1.2, fun _ => g.2⟩
        have bad : ¬ ((G = true ∧ isNm a.mods[i].name = true) ∧ Op.bytesLess (a.mods[i - 1]'hlt).name.toList a.mods[i].name.toList = true) → false = libE a.mods := fun g => bad fun x => g ⟨⟨hG.symm.trans (x hi).1, (x hi).2.1⟩, (x hi).2.2 h0⟩
        repeat' (first | (exfalso; rw [e0] at h; cases h; done) | refine And.intro (fun (h : _ = true) => ?_) (fun (h : _ = false) => ?_) | refine And.intro (fun (h : _ = false) => ?_) (fun (h : _ = true) => ?_) | refine And.intro (show regOk _ _ = true from by kernel_rfl) ?_ | refine And.intro (Sim.of_eq (congrArg AV.bool ?_)) trivial | (refine ⟨⟨i + 1, hi, good ?_⟩, Nat.sub_succ_lt_self _ _ hi, ?wk⟩; case wk => (repeat' (first | exact trivial | (refine And.intro (congrArg (AV.int .i64) (w64 ?_ ?_)) ?_; omega; omega) | refine And.intro rfl ?_ | refine And.intro (SimRows.refl _) ?_ | (refine And.intro (SimRows.of_eq ?_) ?_; (first | assumption | rfl)) | (refine And.intro (congrArg (AV.int .i64) ?_) ?_; (first | assumption | omega)) | fail)); done) | refine ⟨h1, _, hr1, ?_⟩ | refine ⟨Int.natCast_nonneg _, _, hr, ?_⟩ | refine ⟨[.ro], .bool _, [none], c, trivial, ?_⟩ | fail)
        all_goals clear c um vm ua va oa fa hr lm hb good
        all_goals first
          | (refine bad ?_; simp_all; done)
          | (clear bad; simp_all; done)
    · refine ⟨.of_eq (congrArg AV.bool ?_), trivial⟩
      have hb : ∀ j, j < a.mods.length → modP a.mods j := fun j hj => hb j (by omega)
      rw [lm]
      by_cases hl : (a.mods.length : Int) ≤ 12
      · rw [decide_eq_true hl]; exact (dec_true ⟨hl, hb⟩).symm
      · rw [decide_eq_false hl]; exact (dec_false fun x => hl x.1).symm
end Go.Proofs.VI
