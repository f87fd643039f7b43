/- Contracts of functions, and what they rest on: l18copy l18drop. -/
import Derived.Test.YtjlonhiojgljcaaGreatQ1
set_option linter.unusedVariables false
set_option linter.unusedSimpArgs false
set_option maxRecDepth 10000
set_option maxHeartbeats 4000000
namespace Go.Proofs.VI
open Go
theorem mods_len (l : List GLibMod) : (GLibMod.ows l).length = l.length := by simp
theorem mod_snoc (l : List GLibMod) (m : GLibMod) (x : AV) : (GLibMod.ows l ++ [[AV.str m.name, x]]).modify ((GLibMod.ows l).length + 0) (fun row => row.set 1 (.ow 1 (GByte.ows m.b))) = GLibMod.ows (l ++ [m]) := by
  rw [modify_end]; simp [GLibMod.ow]
theorem take_snoc {α : Type} (l : List α) (i : Nat) (h : i < l.length) : l.take i ++ [l[i]] = l.take (i + 1) := by
  rw [List.take_add_one, List.getElem?_eq_getElem h]; rfl
theorem byte1_ro (b : List UInt8) : toRoRows [[AV.ro 1 (GByte.ros b)]] = [[AV.ro 1 (GByte.ros b)]] := by
  show [[AV.ro 1 (toRoRows (GByte.ros b))]] = _
  rw [GByte.ror]
theorem impl_copyLib (a : GLib) (fa : GLib.fit a) : Con 100 [.agg (GLib.ro a)] (.agg (GLib.ow a)) [none] := by
  have ua := GLib.fit_un fa
  have lm : (GLibMod.ros a.mods).length = a.mods.length := by simp
  refine conI [] (fun i => bif Nat.beq i 5 then some (3, 30) else none) (fun _ => false) Tryz.func100 (fun _ h => by cases h) ?_
  refine ⟨{ i : Nat // i ≤ a.mods.length }, fun i => ⟨[(2, .ptr 1 0 0), (3, .ptr 0 0 0), (8, .ro 2 (GLibMod.ros a.mods)), (9, .int .i64 a.mods.length), (10, .int .i64 i.1)], [(0, .box [.ow 2 (GLibMod.ows (a.mods.take i.1))] []), (1, .box [.nils] [])]⟩, fun i => a.mods.length - i.1, ⟨0, Nat.zero_le _⟩, ?_, ?_⟩
  · exact ⟨rfl, rfl, rfl, rfl, rfl, congrArg (AV.int .i64) (by rw [lm]), rfl, .cons (.cons (.nil 2) (.refl _)) (.refl _), .refl _, trivial⟩
  · rintro ⟨i, hi⟩
    dsimp only
    refine ⟨fun h => ?_, fun h => ?_⟩ <;> simp only [decide_eq_true_eq, decide_eq_false_iff_not] at h
    · have hi : i < a.mods.length := by omega
      have um := GLibMod.fit_un (ua.2 _ (List.getElem_mem hi))
      have hj := impl_joined [a.mods[i].b] (by simp) (by simp; omega)
      rw [show [a.mods[i].b].flatten = a.mods[i].b by simp] at hj
      refine ⟨Int.natCast_nonneg _, _, mod_row hi, ?_⟩
      refine ⟨[.frz], .ow 1 (GByte.ows a.mods[i].b), [none], by rw [byte1_ro]; exact hj, trivial, ?_⟩
      refine ⟨trivial, (by show ((GLibMod.ows _).length + 1) * 40 ≤ _; rw [mods_len, List.length_take]; omega), ⟨⟨trivial, trivial, trivial⟩, trivial⟩, by kernel_rfl, ?_⟩
      refine ⟨⟨i + 1, hi⟩, Nat.sub_succ_lt_self _ _ hi, rfl, rfl, rfl, rfl, rfl, rfl, congrArg (AV.int .i64) (w64 (by omega) (by omega)), .of_eq ?_, .refl _, trivial⟩
      rw [← take_snoc _ _ hi]
      exact congrArg (fun z => [[AV.ow 2 z]]) (mod_snoc _ a.mods[i] _)
    · have hi : i = a.mods.length := by omega
      subst hi
      rw [List.take_length]
      exact ⟨.refl _, trivial⟩
theorem spec_l18Copy (a : GLib) (fa : GLib.fit a) : Con 98 [.agg (GLib.ro a)] (.agg (GLib.ow a)) [none] := by
  have ua := GLib.fit_un fa
  have lm : (GLibMod.ros a.mods).length = a.mods.length := by simp
  refine conI [] (fun i => bif Nat.beq i 5 then some (3, 30) else none) (fun _ => false) Tryz.func98 (fun _ h => by cases h) ?_
  refine ⟨{ i : Nat // i ≤ a.mods.length }, fun i => ⟨[(1, .ptr 0 0 0), (2, .ptr 2 0 0), (3, .ptr 1 0 0), (4, .int .i64 i.1)], [(0, .box (GLib.ro a) []), (1, .box [.ow 2 (GLibMod.ows (a.mods.take i.1))] []), (2, .box [.nils] [])]⟩, fun i => a.mods.length - i.1, ⟨0, Nat.zero_le _⟩, ?_, ?_⟩
  · exact ⟨rfl, rfl, rfl, rfl, rfl, rfl, rfl, .refl _, .cons (.cons (.nil 2) (.refl _)) (.refl _), .refl _, trivial⟩
  · rintro ⟨i, hi⟩
    dsimp only
    refine ⟨fun h => ?_, fun h => ?_⟩ <;> simp only [lm, decide_eq_true_eq, decide_eq_false_iff_not] at h
    · have hi : i < a.mods.length := by omega
      have um := GLibMod.fit_un (ua.2 _ (List.getElem_mem hi))
      refine ⟨Int.natCast_nonneg _, _, mod_row hi, Int.natCast_nonneg _, _, mod_row hi, ?_⟩
      refine ⟨trivial, (by show (0 + (GByte.ros _).length) * 1 ≤ _; rw [byte_len]; omega), byte_plain _, ?_⟩
      refine ⟨trivial, (by show ((GLibMod.ows _).length + 1) * 40 ≤ _; rw [mods_len, List.length_take]; omega), ⟨⟨trivial, trivial, trivial⟩, trivial⟩, by kernel_rfl, ?_⟩
      refine ⟨⟨i + 1, hi⟩, Nat.sub_succ_lt_self _ _ hi, rfl, rfl, rfl, rfl, rfl, rfl, congrArg (AV.int .i64) (w64 (by omega) (by omega)), .refl _, .of_eq ?_, .refl _, trivial⟩
      rw [← take_snoc _ _ hi]
      exact congrArg (fun z => [[AV.ow 2 z]]) (mod_snoc _ a.mods[i] _)
    · have hi : i = a.mods.length := by omega
      subst hi
      rw [List.take_length]
      exact ⟨.refl _, trivial⟩
theorem libE_12 {l : List GLibMod} (h : libE l = true) : l.length ≤ 12 := by
  by_cases hp : libP l
  · have := hp.1; omega
  · rw [libE, dec_false hp] at h; cases h
theorem cnt_sub {α : Type} (w : α → Nat) {a b : List α} (h : a.Sublist b) : cntS w a ≤ cntS w b := by
  induction h with
  | slnil => exact Nat.le_refl _
  | cons x _ ih => simp only [cntS]; omega
  | cons_cons x _ ih => simp only [cntS]; omega
theorem libRo (a : GLib) : Sim (.agg (GLib.ow a)) (.agg (GLib.ro a)) := .trans (.frz _) (.of_eq (by show AV.agg (toRoL (GLib.ow _)) = _; rw [GLib.toRo_ow]))
end Go.Proofs.VI
