/- Contracts of functions, and what they rest on: l18copy l18drop. -/
import Derived.Test.YtjlonhiojgljcaaGreatQ1
set_option linter.unusedVariables false
set_option linter.unusedSimpArgs false
set_option maxRecDepth 10000
set_option maxHeartbeats 4000000
namespace Go.Proofs.VI
open Go
theorem mods_len (l : List GLibMod) : (GLibMod.ows l).length = l.length := by simp
theorem mod_snoc (l : List GLibMod) (m : GLibMod) (x : AV) : (GLibMod.ows l ++ [[AV.str m.name, x]]).modify ((GLibMod.ows l).length + 0) (fun row => row.set 1 (.ow 1 (GByte.ows m.b))) = GLibMod.ows (l ++ [m]) := by
  rw [modify_end]; simp [GLibMod.ow]
theorem take_snoc {α : Type} (l : List α) (i : Nat) (h : i < l.length) : l.take i ++ [l[i]] = l.take (i + 1) := by
  rw [List.take_add_one, List.getElem?_eq_getElem h]; rfl
theorem byte1_ro (b : List UInt8) : toRoRows [[AV.ro 1 (GByte.ros b)]] = [[AV.ro 1 (GByte.ros b)]] := by
  show [[AV.ro 1 (toRoRows (GByte.ros b))]] = _
  rw [GByte.ror]
theorem impl_copyLib (a : GLib) (fa : GLib.fit a) : Con 100 [.agg (GLib.ro a)] (.agg (GLib.ow a)) [none] := by
  have ua := GLib.fit_un fa
  have lm : (GLibMod.ros a.mods).length = a.mods.length := by simp
  refine conI [] (fun i => bif Nat.beq i 5 then some (3, 30) else none) (fun _ => false) Tryz.func100 (fun _ h => by cases h) ?_
  refine ⟨{ i : Nat // i ≤ a.mods.length }, fun i => ⟨[(2, .ptr 1 0 0), (3, .ptr 0 0 0), (8, .ro 2 (GLibMod.ros a.mods)), (9, .int .i64 a.mods.length), (10, .int .i64 i.1)], [(0, .box [.ow 2 (GLibMod.ows (a.mods.take i.1))] []), (1, .box [.nils] [])]⟩, fun i => a.mods.length - i.1, ⟨0, Nat.zero_le _⟩, ?_, ?_⟩
  · exact ⟨rfl, rfl, rfl, rfl, rfl, congrArg (AV.int .i64) (by rw [lm]), rfl, .cons (.cons (.nil 2) (.refl _)) (.refl _), .refl _, trivial⟩
  · rintro ⟨i, hi⟩
    dsimp only
    refine ⟨fun h => ?_, fun h => ?_⟩ <;> simp only [decide_eq_true_eq, decide_eq_false_iff_not] at h
    · have hi : i < a.mods.length := by omega
      have um := GLibMod.fit_un (ua.2 _ (List.getElem_mem hi))
      have hj := impl_joined [a.mods[i].b] (by simp) (by simp; omega)
      rw [show [a.mods[i].b].flatten = a.mods[i].b by simp] at hj
      refine ⟨Int.natCast_nonneg _, _, mod_row hi, ?_⟩
      refine ⟨[.frz], .ow 1 (GByte.ows a.mods[i].b), [none], by rw [byte1_ro]; exact hj, trivial, ?_⟩
      refine ⟨trivial, (by show ((GLibMod.ows _).length + 1) * 40 ≤ _; rw [mods_len, List.length_take]; omega), ⟨⟨trivial, trivial, trivial⟩, trivial⟩, by kernel_rfl, ?_⟩
      refine ⟨⟨i + 1, hi⟩, Nat.sub_succ_lt_self _ _ hi, rfl, rfl, rfl, rfl, rfl, rfl, congrArg (AV.int .i64) (w64 (by omega) (by omega)), .of_eq ?_, .refl _, trivial⟩
      rw [← take_snoc _ _ hi]
      exact congrArg (fun z => [[AV.ow 2 z]]) (mod_snoc _ a.mods[i] _)
    · have hi : i = a.mods.length := by omega
      subst hi
      rw [List.take_length]
      exact ⟨.refl _, trivial⟩
theorem spec_l18Copy (a : GLib) (fa : GLib.fit a) : Con 98 [.agg (GLib.ro a)] (.agg (GLib.ow a)) [none] := by
  have ua := GLib.fit_un fa
  have lm : (GLibMod.ros a.mods).length = a.mods.length := by simp
  refine conI [] (fun i => bif Nat.beq i 5 then some (3, 30) else none) (fun _ => false) Tryz.func98 (fun _ h => by cases h) ?_
  refine ⟨{ i : Nat // i ≤ a.mods.length }, fun i => ⟨[(1, .ptr 0 0 0), (2, .ptr 2 0 0), (3, .ptr 1 0 0), (4, .int .i64 i.1)], [(0, .box (GLib.ro a) []), (1, .box [.ow 2 (GLibMod.ows (a.mods.take i.1))] []), (2, .box [.nils] [])]⟩, fun i => a.mods.length - i.1, ⟨0, Nat.zero_le _⟩, ?_, ?_⟩
  · exact ⟨rfl, rfl, rfl, rfl, rfl, rfl, rfl, .refl _, .cons (.cons (.nil 2) (.refl _)) (.refl _), .refl _, trivial⟩
  · rintro ⟨i, hi⟩
    dsimp only
    refine ⟨fun h => ?_, fun h => ?_⟩ <;> simp only [lm, decide_eq_true_eq, decide_eq_false_iff_not] at h
    · have hi : i < a.mods.length := by omega
      have um := GLibMod.fit_un (ua.2 _ (List.getElem_mem hi))
      refine ⟨Int.natCast_nonneg _, _, mod_row hi, Int.natCast_nonneg _, _, mod_row hi, ?_⟩
      refine ⟨trivial, (by show (0 + (GByte.ros _).length) * 1 ≤ _; rw [byte_len]; omega), byte_plain _, ?_⟩
      refine ⟨trivial, (by show ((GLibMod.ows _).length + 1) * 40 ≤ _; rw [mods_len, List.length_take]; omega), ⟨⟨trivial, trivial, trivial⟩, trivial⟩, by kernel_rfl, ?_⟩
      refine ⟨⟨i + 1, hi⟩, Nat.sub_succ_lt_self _ _ hi, rfl, rfl, rfl, rfl, rfl, rfl, congrArg (AV.int .i64) (w64 (by omega) (by omega)), .refl _, .of_eq ?_, .refl _, trivial⟩
      rw [← take_snoc _ _ hi]
      exact congrArg (fun z => [[AV.ow 2 z]]) (mod_snoc _ a.mods[i] _)
    · have hi : i = a.mods.length := by omega
      subst hi
      rw [List.take_length]
      exact ⟨.refl _, trivial⟩
theorem libE_12 {l : List GLibMod} (h : libE l = true) : l.length ≤ 12 := by
  by_cases hp : libP l
  · have := hp.1; omega
  · rw [libE, dec_false hp] at h; cases h
theorem mods_plain (l : List GLibMod) : plainRows (GLibMod.ros l) := by
  induction l with
  | nil => trivial
  | cons x l ih => exact ⟨⟨trivial, trivial, trivial⟩, ih⟩
noncomputable def dropV (l : List GLibMod) (s : ByteArray) : List GLibMod × Bool := if libE l = true then (if 0 ≤ idxOf (fun m : GLibMod => decide (m.name = s)) l then (l.eraseIdx (idxOf (fun m : GLibMod => decide (m.name = s)) l).toNat, true) else (l, false)) else (l, false)
theorem cnt_sub {α : Type} (w : α → Nat) {a b : List α} (h : a.Sublist b) : cntS w a ≤ cntS w b := by
  induction h with
  | slnil => exact Nat.le_refl _
  | cons x _ ih => simp only [cntS]; omega
  | cons_cons x _ ih => simp only [cntS]; omega
theorem dropV_sub (l : List GLibMod) (s : ByteArray) : (dropV l s).1.Sublist l := by
  rw [dropV]
  split
  · split
    · exact List.eraseIdx_sublist _ _
    · exact List.Sublist.refl _
  · exact List.Sublist.refl _
theorem dropV_fit (a : GLib) (s : ByteArray) (fa : GLib.fit a) : GLib.fit ⟨(dropV a.mods s).1⟩ ∧ GLib.tw ⟨(dropV a.mods s).1⟩ ≤ GLib.tw a := by
  have h := dropV_sub a.mods s
  have ua := GLib.fit_un fa
  exact ⟨⟨Nat.le_trans h.length_le ua.1, fun x hx => ua.2 x (h.subset hx)⟩, cnt_sub GLibMod.w h⟩
theorem impl_LibDrop (a : GLib) (s : ByteArray) (fa : GLib.fit a) (oa : GLib.ok a) : Con 41 [.agg (GLib.ro a), .str s] (.tup [.agg (GLib.ow ⟨(dropV a.mods s).1⟩), .bool (dropV a.mods s).2]) [none, none] := by
  have ua := GLib.fit_un fa
  refine con Tryz.func41 ?_
  refine ⟨[.ro], .agg (GLib.ow a), [none], impl_copyLib a fa, trivial, ?_⟩
  refine ⟨[.ro, .ro], .int .i64 _, [none, none], impl_modAt a s ua.1, trivial, ?_⟩
  refine ⟨[.ro], .bool (libE a.mods), [none], impl_LibOk a fa oa, trivial, fun h => ?_, fun h => ?_⟩ <;> simp only [Bool.not_eq_true', Bool.not_eq_false'] at h
  · rcases idx_cases (fun m : GLibMod => decide (m.name = s)) a.mods with ⟨e1, e2⟩ | ⟨i, hi, e1, e2⟩
    · have hd : dropV a.mods s = (a.mods, false) := by rw [dropV, if_pos h, e1]; rfl
      rw [hd]
      refine ⟨fun h2 => ?_, fun h2 => ?_⟩
      · exact ⟨.refl _, trivial⟩
      · rw [e1] at h2; cases h2
    · have hd : dropV a.mods s = (a.mods.eraseIdx i, true) := by rw [dropV, if_pos h, e1, if_pos (Int.natCast_nonneg _)]; rfl
      rw [hd]
      refine ⟨fun h2 => ?_, fun h2 => ?_⟩
      · rw [e1] at h2; simp only [decide_eq_true_eq] at h2; omega
      · have e3 : IntKind.wrap .i64 ((i : Int) + 1) = ((i + 1 : Nat) : Int) := w64 (by omega) (by omega)
        refine ⟨[.mv, .ro, .ro], .ow 2 (GLibMod.ows (a.mods.eraseIdx i)), [none, none, none], by rw [e1, e3]; exact con_DelMod a.mods i hi ua.1, trivial, ?_⟩
        exact ⟨.refl _, trivial⟩
  · have hd : dropV a.mods s = (a.mods, false) := by rw [dropV, if_neg (by rw [h]; simp)]
    rw [hd]
    exact ⟨.refl _, trivial⟩
theorem libRo (a : GLib) : Sim (.agg (GLib.ow a)) (.agg (GLib.ro a)) := .trans (.frz _) (.of_eq (by show AV.agg (toRoL (GLib.ow _)) = _; rw [GLib.toRo_ow]))
theorem spec_LibDrop (a : GLib) (s : ByteArray) (fa : GLib.fit a) (oa : GLib.ok a) : Con 40 [.agg (GLib.ro a), .str s] (.tup [.agg (GLib.ro ⟨(dropV a.mods s).1⟩), .bool (dropV a.mods s).2]) [none, none] := by
  have ua := GLib.fit_un fa
  have lm : (GLibMod.ros a.mods).length = a.mods.length := by simp
  refine con Tryz.func40 ?_
  refine ⟨[.ro], .agg (GLib.ro a), [none], (spec_l18Copy a fa).sim (by simp) (libRo a), trivial, ?_⟩
  refine ⟨[.ro, .ro], .int .i64 _, [none, none], spec_l18At a s ua.1, trivial, ?_⟩
  refine ⟨[.ro], .bool (libE a.mods), [none], spec_LibOk a fa oa, trivial, fun h => ?_, fun h => ?_⟩ <;> simp only [Bool.not_eq_true', Bool.not_eq_false'] at h
  · rcases idx_cases (fun m : GLibMod => decide (m.name = s)) a.mods with ⟨e1, e2⟩ | ⟨i, hi, e1, e2⟩
    · have hd : dropV a.mods s = (a.mods, false) := by rw [dropV, if_pos h, e1]; rfl
      rw [hd]
      refine ⟨fun h2 => ?_, fun h2 => ?_⟩
      · exact ⟨.refl _, trivial⟩
      · rw [e1] at h2; cases h2
    · have hd : dropV a.mods s = (a.mods.eraseIdx i, true) := by rw [dropV, if_pos h, e1, if_pos (Int.natCast_nonneg _)]; rfl
      have h12 := libE_12 h
      rw [hd, e1]
      refine ⟨fun h2 => ?_, fun h2 => ?_⟩
      · simp only [decide_eq_true_eq] at h2; omega
      · have e3 : IntKind.wrap .i64 ((i : Int) + 1) = ((i + 1 : Nat) : Int) := w64 (by omega) (by omega)
        have hsl : ∀ q : List GLibMod, (GLibMod.ros q).length = q.length := fun q => by simp
        have r1 : ((GLibMod.ros a.mods).drop 0).take (((i : Int).toNat) - 0) = GLibMod.ros (a.mods.take i) := by rw [Int.toNat_natCast, List.drop_zero, Nat.sub_zero]; exact List.map_take.symm
        have r2 : ((GLibMod.ros a.mods).drop (IntKind.wrap .i64 ((i : Int) + 1)).toNat).take ((GLibMod.ros a.mods).length - (IntKind.wrap .i64 ((i : Int) + 1)).toNat) = GLibMod.ros (a.mods.drop (i + 1)) := by rw [e3, Int.toNat_natCast, List.take_of_length_le (by simp)]; exact List.map_drop.symm
        refine ⟨Int.natCast_nonneg _, by rw [lm]; omega, ?_⟩
        refine ⟨trivial, (by rw [r1]; show (0 + (GLibMod.ros _).length) * 40 ≤ _; rw [hsl, List.length_take]; omega), (by rw [r1]; exact mods_plain _), ?_⟩
        refine ⟨by rw [e3]; exact Int.natCast_nonneg _, by rw [e3, lm]; omega, ?_⟩
        refine ⟨trivial, (by rw [r1, r2]; show ((([] : List (List AV)) ++ GLibMod.ros _).length + (GLibMod.ros _).length) * 40 ≤ _; rw [List.nil_append, hsl, hsl, List.length_take, List.length_drop]; omega), (by rw [r2]; exact mods_plain _), by kernel_rfl, ?_⟩
        rw [r1, r2]
        refine ⟨.trans (.frz _) (.of_eq ?_), trivial⟩
        show AV.tup [.agg [.ro 2 (toRoRows ([] ++ GLibMod.ros (a.mods.take i) ++ GLibMod.ros (a.mods.drop (i + 1))))], _] = _
        rw [List.nil_append, show GLibMod.ros (a.mods.take i) ++ GLibMod.ros (a.mods.drop (i + 1)) = GLibMod.ros (a.mods.eraseIdx i) by rw [List.eraseIdx_eq_take_drop_succ]; exact List.map_append.symm, GLibMod.ror]
        rfl
  · have hd : dropV a.mods s = (a.mods, false) := by rw [dropV, if_neg (by rw [h]; simp)]
    rw [hd]
    exact ⟨.refl _, trivial⟩
end Go.Proofs.VI
