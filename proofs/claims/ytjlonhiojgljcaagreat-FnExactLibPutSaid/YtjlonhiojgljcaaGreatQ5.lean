/- Contracts of functions, and what they rest on: l18put l18puts. -/
import Derived.Test.YtjlonhiojgljcaaGreatQ4
set_option linter.unusedVariables false
set_option linter.unusedSimpArgs false
set_option maxRecDepth 10000
set_option maxHeartbeats 4000000
namespace Go.Proofs.VI
open Go
theorem impl_LibPut (a : GLib) (s : ByteArray) (o : GObj) (fa : GLib.fit a) (oa : GLib.ok a) (fo : GObj.fit o) (oo : GObj.ok o) (hp : (objB o).length ≤ 70368744000000) (hs : s.size ≤ 9223372036854775807) : Con 44 [.agg (GLib.ro a), .str s, .agg (GObj.ro o)] (.tup [.agg (GLib.ow ⟨(putV a.mods s (putObj o)).1⟩), .bool (putV a.mods s (putObj o)).2]) [none, none, none] := by
  have ua := GLib.fit_un fa
  have va := GLib.ok_un oa
  have lm : (GLibMod.ows a.mods).length = a.mods.length := by simp
  have hb3 := putObj_len o
  have hgood := put_good (o := o)
  have cP := impl_PutObj o fo oo hp
  generalize putObj o = b at *
  refine con Tryz.func44 ?_
  refine ⟨[.ro], .ow 1 (GByte.ows b), [none], cP, trivial, ?_⟩
  refine ⟨[.ro], .bool (libE a.mods), [none], impl_LibOk a fa oa, trivial, fun h => ?_, fun h => ?_⟩ <;> simp only [Bool.not_eq_true', Bool.not_eq_false'] at h
  · refine ⟨fun h2 => ?_, fun h2 => ?_⟩ <;> simp only [byte_len, decide_eq_true_eq, decide_eq_false_iff_not] at h2
    · have hb0 : b = [] := List.length_eq_zero_iff.1 (by omega)
      have hd : putV a.mods s b = (a.mods, false) := by rw [putV, if_pos h, if_pos hb0]
      rw [hd]
      refine ⟨[.ro], .agg (GLib.ow a), [none], impl_copyLib a fa, trivial, ?_⟩
      exact ⟨.refl _, trivial⟩
    · have hb0 : b ≠ [] := fun e => by rw [e] at h2; exact h2 rfl
      have hg := hgood hb0
      have h12 := libE_12 h
      refine ⟨[.ro], .agg (GLib.ow a), [none], impl_copyLib a fa, trivial, ?_⟩
      refine ⟨[.ro, .ro], .int .i64 (idxOf (fun m : GLibMod => decide (m.name = s)) a.mods), [none, none], impl_modAt a s ua.1, trivial, ?_⟩
      rcases idx_cases (fun m : GLibMod => decide (m.name = s)) a.mods with ⟨e1, e2⟩ | ⟨i, hi, e1, e2⟩
      · rw [e1]
        have hno : ∀ m ∈ a.mods, m.name ≠ s := fun m hm e => by
          have := List.find?_eq_none.1 e2 m hm
          simp [e] at this
        refine ⟨fun h3 => absurd h3 (by decide), fun h3 => ?_⟩
        refine ⟨{ i : Nat // i ≤ a.mods.length ∧ ∀ k (hk : k < i) (hl : k < a.mods.length), lessM s a.mods[k] = true }, fun i => ⟨[(1, .str s), (3, .ptr 0 0 0), (6, .ptr 1 0 0), (8, .own 3), (9, .ptr 2 0 0), (11, .int .i64 i.1)], [(0, .box (GLib.ro a) []), (1, .box [.nils] []), (2, .box (GLib.ow a) []), (3, .rows 1 (GByte.ows b) [])]⟩, fun i => a.mods.length - i.1, ⟨0, Nat.zero_le _, fun k hk => absurd hk (Nat.not_lt_zero _)⟩, ?_, ?_⟩
        · exact ⟨rfl, rfl, rfl, rfl, rfl, rfl, rfl, rfl, .refl _, .refl _, .refl _, rfl, .refl _, trivial⟩
        · rintro ⟨i, hi, hk⟩
          dsimp only
          have stop : (∀ hl : i < a.mods.length, lessM s a.mods[i] = false) → posP a.mods s = i := fun g => posP_at hi (fun k hk2 => hk k hk2 (by omega)) g
          refine ⟨fun h4 => ?_, fun h4 => ?_⟩ <;> simp only [lm, decide_eq_true_eq, decide_eq_false_iff_not] at h4
          · have hi : i < a.mods.length := by omega
            have hrow : (GLibMod.ows a.mods)[((i : Nat) : Int).toNat]? = some (GLibMod.ow a.mods[i]) := by rw [Int.toNat_natCast]; exact map_get _ _ hi
            refine ⟨Int.natCast_nonneg _, by rw [lm]; omega, _, hrow, fun h5 => ?_, fun h5 => ?_⟩
            · refine ⟨⟨i + 1, hi, fun k hk2 hl => ?_⟩, Nat.sub_succ_lt_self _ _ hi, rfl, rfl, rfl, rfl, rfl, rfl, rfl, congrArg (AV.int .i64) (w64 (by omega) (by omega)), .refl _, .refl _, .refl _, rfl, .refl _, trivial⟩
              by_cases e : k = i
              · subst e; exact h5
              · exact hk k (by omega) hl
            · have hpos : posP a.mods s = i := stop fun _ => h5
              have hins := con_InsMod a.mods ⟨s, b⟩ i (by omega) ua.1
              have hout : putOut a.mods s b = a.mods.take i ++ ⟨s, b⟩ :: a.mods.drop i := by rw [put_none hno, hpos]
              obtain ⟨g1, g2⟩ := putOut_good fa oa h hb3 hs
              rw [← hout] at hins
              refine ⟨[.mv, .ro, .mv], .ow 2 (GLibMod.ows (putOut a.mods s b)), [none, none, none], hins, trivial, ?_⟩
              refine ⟨[.ro], .bool (libE (putOut a.mods s b)), [none], by rw [GLibMod.roo]; exact impl_LibOk ⟨putOut a.mods s b⟩ g1 g2, ⟨trivial, trivial⟩, fun h6 => ?_, fun h6 => ?_⟩ <;> simp only [Bool.not_eq_true', Bool.not_eq_false'] at h6
              · have hd : putV a.mods s b = (a.mods, false) := by rw [putV, if_pos h, if_neg hb0, if_neg (by rw [h6]; simp)]
                rw [hd]
                refine ⟨[.ro], .agg (GLib.ow a), [none], impl_copyLib a fa, trivial, ?_⟩
                exact ⟨.refl _, trivial⟩
              · have hd : putV a.mods s b = (putOut a.mods s b, true) := by rw [putV, if_pos h, if_neg hb0, if_pos h6]
                rw [hd]
                exact ⟨.refl _, trivial⟩
          · have hpos : posP a.mods s = i := stop fun hl => absurd hl (by omega)
            have hins := con_InsMod a.mods ⟨s, b⟩ i (by omega) ua.1
            have hout : putOut a.mods s b = a.mods.take i ++ ⟨s, b⟩ :: a.mods.drop i := by rw [put_none hno, hpos]
            obtain ⟨g1, g2⟩ := putOut_good fa oa h hb3 hs
            rw [← hout] at hins
            refine ⟨[.mv, .ro, .mv], .ow 2 (GLibMod.ows (putOut a.mods s b)), [none, none, none], hins, trivial, ?_⟩
            refine ⟨[.ro], .bool (libE (putOut a.mods s b)), [none], by rw [GLibMod.roo]; exact impl_LibOk ⟨putOut a.mods s b⟩ g1 g2, ⟨trivial, trivial⟩, fun h6 => ?_, fun h6 => ?_⟩ <;> simp only [Bool.not_eq_true', Bool.not_eq_false'] at h6
            · have hd : putV a.mods s b = (a.mods, false) := by rw [putV, if_pos h, if_neg hb0, if_neg (by rw [h6]; simp)]
              rw [hd]
              refine ⟨[.ro], .agg (GLib.ow a), [none], impl_copyLib a fa, trivial, ?_⟩
              exact ⟨.refl _, trivial⟩
            · have hd : putV a.mods s b = (putOut a.mods s b, true) := by rw [putV, if_pos h, if_neg hb0, if_pos h6]
              rw [hd]
              exact ⟨.refl _, trivial⟩
      · rw [e1]
        have hns : a.mods[i].name = s := by have := List.find?_some e2; simpa using this
        have hf1 := put_found (b := b) h hi hns
        have hf2 := put_set h hi hns hg
        have hd : putV a.mods s b = (a.mods.set i ⟨s, b⟩, true) := by rw [putV, if_pos h, if_neg hb0, hf1, if_pos hf2]
        rw [hd]
        refine ⟨fun h3 => ?_, fun h3 => ?_⟩ <;> simp only [decide_eq_true_eq, decide_eq_false_iff_not] at h3
        · have hrow : (GLibMod.ows a.mods)[((i : Nat) : Int).toNat]? = some (GLibMod.ow a.mods[i]) := by rw [Int.toNat_natCast]; exact map_get _ _ hi
          refine ⟨Int.natCast_nonneg _, by rw [lm]; omega, _, hrow, ?_⟩
          refine ⟨.of_eq ?_, trivial⟩
          refine congrArg (fun z => AV.tup [.agg [.ow 2 z], .bool true]) ?_
          rw [Int.toNat_natCast]
          refine List.ext_getElem? fun j => ?_
          show _ = ((a.mods.set i ⟨s, b⟩).map GLibMod.ow)[j]?
          rw [List.getElem?_modify, List.getElem?_set, List.getElem?_map, List.getElem?_map, List.getElem?_set]
          by_cases e : i = j
          · subst e
            simp [hi, hns, GLibMod.ow]
          · simp [e]
        · omega
  · have hd : putV a.mods s b = (a.mods, false) := by rw [putV, if_neg (by rw [h]; simp)]
    rw [hd]
    refine ⟨[.ro], .agg (GLib.ow a), [none], impl_copyLib a fa, trivial, ?_⟩
    exact ⟨.refl _, trivial⟩
/-- What stands there behind so many modules. -/
def outS (l : List GLibMod) (s : ByteArray) (b : List UInt8) (i : Nat) : List GLibMod := if i ≤ posP l s then l.take i else l.take (posP l s) ++ ⟨s, b⟩ :: ((l.take i).drop (posP l s)).filter fun m => !decide (m.name = s)
theorem posP_le (l : List GLibMod) (s : ByteArray) : posP l s ≤ l.length := List.findIdx_le_length
theorem posP_less {l : List GLibMod} {s : ByteArray} {i : Nat} (hi : i < l.length) (h : i < posP l s) : lessM s l[i] = true := by
  have := List.not_of_lt_findIdx (p := fun m => !lessM s m) (xs := l) h
  simpa using this
theorem posP_stop {l : List GLibMod} {s : ByteArray} (hi : posP l s < l.length) : lessM s (l[posP l s]'hi) = false := by
  have := List.findIdx_getElem (p := fun m => !lessM s m) (xs := l) (w := hi)
  rw [Bool.not_eq_true'] at this
  exact this
theorem less_ne {s : ByteArray} {m : GLibMod} (h : lessM s m = true) : m.name ≠ s := fun e => by
  rw [lessM_kS, decide_eq_true_eq, e] at h; exact ltL_irrefl _ h
theorem outS_step (l : List GLibMod) (s : ByteArray) (b : List UInt8) (i : Nat) (hi : i < l.length) : outS l s b (i + 1) = (outS l s b i ++ if i = posP l s then [⟨s, b⟩] else []) ++ if l[i].name = s then [] else [l[i]] := by
  have ht : l.take (i + 1) = l.take i ++ [l[i]] := (take_snoc l i hi).symm
  have hf : ([l[i]]).filter (fun m : GLibMod => !decide (m.name = s)) = if l[i].name = s then [] else [l[i]] := by
    by_cases e : l[i].name = s
    · rw [if_pos e]; simp [e]
    · rw [if_neg e]; simp [e]
  rw [outS, outS]
  rcases Nat.lt_trichotomy i (posP l s) with h | h | h
  · rw [if_pos (by omega), if_pos (by omega), if_neg (by omega), if_neg (less_ne (posP_less hi h)), List.append_nil, ht]
  · rw [if_neg (by omega), if_pos (by omega), if_pos h, ← h, ht, List.drop_append_of_le_length (by simp; omega), List.drop_of_length_le (by simp; omega), List.nil_append, hf, List.append_assoc]; rfl
  · rw [if_neg (by omega), if_neg (by omega), if_neg (by omega), ht, List.drop_append_of_le_length (by simp; omega), List.filter_append, hf, List.append_nil, List.append_assoc]; rfl
theorem outS_end (l : List GLibMod) (s : ByteArray) (b : List UInt8) : putOut l s b = outS l s b l.length ++ if posP l s < l.length then [] else [⟨s, b⟩] := by
  have hp := posP_le l s
  rw [putOut, outS]
  by_cases h : posP l s < l.length
  · rw [if_neg (by omega), if_pos h, List.take_length, List.append_nil]
  · have e : posP l s = l.length := by omega
    rw [if_pos (by omega), if_neg h, e, List.take_length, List.drop_length]; rfl
theorem outS_len (l : List GLibMod) (s : ByteArray) (b : List UInt8) (i : Nat) : (outS l s b i).length ≤ l.length + 1 := by
  rw [outS]
  split
  · rw [List.length_take]; omega
  · have := List.length_filter_le (fun m : GLibMod => !decide (m.name = s)) ((l.take i).drop (posP l s))
    simp only [List.length_append, List.length_cons, List.length_drop, List.length_take] at this ⊢
    omega
theorem byteSim (b : List UInt8) : Sim (.ow 1 (GByte.ows b)) (.ro 1 (GByte.ros b)) := .trans (.frz _) (.of_eq (by show AV.ro 1 (toRoRows _) = _; rw [GByte.roo]))
theorem modSim {R : List (List AV)} {A : List GLibMod} (m : GLibMod) (hR : R = GLibMod.ros A) : SimRows ((R ++ [[AV.str m.name, .nilp]]).modify (R.length + 0) (fun row => row.set 1 (.ow 1 (GByte.ows m.b)))) (GLibMod.ros (A ++ [m])) := by
  rw [modify_end, hR, show GLibMod.ros (A ++ [m]) = GLibMod.ros A ++ [GLibMod.ro m] from List.map_append]
  exact SimRows.append (.refl _) (.cons (.cons (.refl _) (.cons (byteSim _) (.refl _))) (.refl _))
theorem ros_snoc (A : List GLibMod) (m : GLibMod) : GLibMod.ros A ++ [GLibMod.ro m] = GLibMod.ros (A ++ [m]) := (List.map_append (f := GLibMod.ro) (l₁ := A) (l₂ := [m])).symm
theorem rosm_len (A : List GLibMod) : (GLibMod.ros A).length = A.length := by simp
theorem boxSim {R R' : List (List AV)} (h : SimRows R R') : SimRows [[AV.ow 2 R]] [[AV.ow 2 R']] := .cons (.cons (.ow h) (.refl _)) (.refl _)
theorem spec_LibPut (a : GLib) (s : ByteArray) (o : GObj) (fa : GLib.fit a) (oa : GLib.ok a) (fo : GObj.fit o) (oo : GObj.ok o) (hp : (objB o).length ≤ 70368744000000) (hs : s.size ≤ 9223372036854775807) : Con 43 [.agg (GLib.ro a), .str s, .agg (GObj.ro o)] (.tup [.agg (GLib.ro ⟨(putV a.mods s (putObj o)).1⟩), .bool (putV a.mods s (putObj o)).2]) [none, none, none] := by
  have ua := GLib.fit_un fa
  have va := GLib.ok_un oa
  have lm : (GLibMod.ros a.mods).length = a.mods.length := by simp
  have hb3 := putObj_len o
  have cP := (spec_PutObj o fo oo hp).sim (by simp) (byteSim _)
  have cC := (spec_l18Copy a fa).sim (by simp) (libRo a)
  generalize putObj o = b at *
  have lb : (GByte.ros b).length = b.length := by simp
  refine conI [] (fun i => bif Nat.beq i 13 then some (9, 30) else none) (fun _ => false) Tryz.func43 (fun _ h => by cases h) ?_
  refine ⟨[.ro], .ro 1 (GByte.ros b), [none], cP, trivial, ?_⟩
  refine ⟨[.ro], .bool (libE a.mods), [none], spec_LibOk a fa oa, trivial, fun h => ?_, fun h => ?_⟩ <;> simp only [Bool.not_eq_true', Bool.not_eq_false'] at h
  · refine ⟨fun h2 => ?_, fun h2 => ?_⟩ <;> simp only [lb, decide_eq_true_eq, decide_eq_false_iff_not] at h2
    · have hb0 : b = [] := List.length_eq_zero_iff.1 (by omega)
      have hd : putV a.mods s b = (a.mods, false) := by rw [putV, if_pos h, if_pos hb0]
      rw [hd]
      refine ⟨[.ro], .agg (GLib.ro a), [none], cC, trivial, ?_⟩
      exact ⟨.refl _, trivial⟩
    · have hb0 : b ≠ [] := fun e => by rw [e] at h2; exact h2 rfl
      have h12 := libE_12 h
      have hpl := posP_le a.mods s
      refine ⟨{ i : Nat // i ≤ a.mods.length }, fun i => ⟨[(1, .str s), (3, .ptr 0 0 0), (6, .ptr 1 0 0), (8, .ro 1 (GByte.ros b)), (9, .ptr 2 0 0), (10, .bool (decide (posP a.mods s < i.1))), (11, .int .i64 i.1)], [(0, .box (GLib.ro a) []), (1, .box [.nils] []), (2, .box [.ow 2 (GLibMod.ros (outS a.mods s b i.1))] [])]⟩, fun i => a.mods.length - i.1, ⟨0, Nat.zero_le _⟩, ?_, ?_⟩
      · refine ⟨rfl, rfl, rfl, rfl, rfl, rfl, rfl, rfl, congrArg AV.bool (decide_eq_false (Nat.not_lt_zero _)).symm, rfl, .refl _, .refl _, .cons (.cons (.nil 2) (.refl _)) (.refl _), trivial⟩
      · rintro ⟨i, hi⟩
        dsimp only
        have hol := outS_len a.mods s b i
        refine ⟨fun h3 => ?_, fun h3 => ?_⟩ <;> simp only [lm, decide_eq_true_eq, decide_eq_false_iff_not] at h3
        · have hi : i < a.mods.length := by omega
          have hrow := mod_row hi
          have um := GLibMod.fit_un (ua.2 _ (List.getElem_mem hi))
          have hst := outS_step a.mods s b i hi
          refine ⟨fun h4 => ⟨Int.natCast_nonneg _, _, hrow, fun h5 => ?_, fun h5 => ?_⟩, fun h4 => ?_⟩
          · have h4 : i ≤ posP a.mods s := by simpa using h4
            have h5 : lessM s a.mods[i] = false := by simpa [lessM] using h5
            have hip : i = posP a.mods s := by
              by_cases e : i < posP a.mods s
              · rw [posP_less hi e] at h5; cases h5
              · omega
            refine ⟨trivial, (by show ((GLibMod.ros _).length + 1) * 40 ≤ _; rw [rosm_len]; omega), ⟨⟨trivial, trivial, trivial⟩, trivial⟩, ?_⟩
            refine ⟨Int.natCast_nonneg _, _, hrow, fun h6 => ?_, fun h6 => ?_⟩
            · have h6 : a.mods[i].name ≠ s := by simpa using h6
              refine ⟨Int.natCast_nonneg _, _, hrow, Int.natCast_nonneg _, _, hrow, ?_⟩
              refine ⟨trivial, (by show (0 + (GByte.ros _).length) * 1 ≤ _; rw [byte_len]; omega), byte_plain _, ?_⟩
              refine ⟨trivial, (by show ((GLibMod.ros _ ++ [GLibMod.ro ⟨s, b⟩]).length + 1) * 40 ≤ _; rw [ros_snoc, rosm_len, List.length_append, List.length_singleton]; omega), ⟨⟨trivial, trivial, trivial⟩, trivial⟩, by kernel_rfl, ?_⟩
              refine ⟨⟨i + 1, hi⟩, Nat.sub_succ_lt_self _ _ hi, rfl, rfl, rfl, rfl, rfl, rfl, rfl, rfl, congrArg AV.bool (decide_eq_true (show posP a.mods s < i + 1 by omega)).symm, congrArg (AV.int .i64) (w64 (by omega) (by omega)), .refl _, .refl _, ?_, trivial⟩
              have hnx : outS a.mods s b (i + 1) = (outS a.mods s b i ++ [⟨s, b⟩]) ++ [a.mods[i]] := by rw [hst, if_pos hip, if_neg h6]
              show SimRows _ [[AV.ow 2 (GLibMod.ros (outS a.mods s b (i + 1)))]]
              rw [hnx]
              exact boxSim (modSim a.mods[i] (ros_snoc _ ⟨s, b⟩))
            · have h6 : a.mods[i].name = s := by simpa using h6
              refine ⟨⟨i + 1, hi⟩, Nat.sub_succ_lt_self _ _ hi, rfl, rfl, rfl, rfl, rfl, rfl, rfl, rfl, congrArg AV.bool (decide_eq_true (show posP a.mods s < i + 1 by omega)).symm, congrArg (AV.int .i64) (w64 (by omega) (by omega)), .refl _, .refl _, ?_, trivial⟩
              have hnx : outS a.mods s b (i + 1) = (outS a.mods s b i ++ [⟨s, b⟩]) := by rw [hst, if_pos hip, if_pos h6, List.append_nil]
              show SimRows _ [[AV.ow 2 (GLibMod.ros (outS a.mods s b (i + 1)))]]
              rw [hnx]
              exact boxSim (SimRows.of_eq (ros_snoc _ ⟨s, b⟩))
          · have h4 : i ≤ posP a.mods s := by simpa using h4
            have h5 : lessM s a.mods[i] = true := by simpa [lessM] using h5
            have hip : i < posP a.mods s := by
              by_cases e : i = posP a.mods s
              · have := posP_stop (l := a.mods) (s := s) (by omega)
                simp only [← e] at this
                rw [this] at h5; cases h5
              · omega
            have hne := less_ne h5
            refine ⟨Int.natCast_nonneg _, _, hrow, fun h6 => ?_, fun h6 => ?_⟩
            · refine ⟨Int.natCast_nonneg _, _, hrow, Int.natCast_nonneg _, _, hrow, ?_⟩
              refine ⟨trivial, (by show (0 + (GByte.ros _).length) * 1 ≤ _; rw [byte_len]; omega), byte_plain _, ?_⟩
              refine ⟨trivial, (by show ((GLibMod.ros _).length + 1) * 40 ≤ _; rw [rosm_len]; omega), ⟨⟨trivial, trivial, trivial⟩, trivial⟩, by kernel_rfl, ?_⟩
              refine ⟨⟨i + 1, hi⟩, Nat.sub_succ_lt_self _ _ hi, rfl, rfl, rfl, rfl, rfl, rfl, rfl, rfl, congrArg AV.bool (decide_eq_decide.2 (show posP a.mods s < i ↔ posP a.mods s < i + 1 by omega)), congrArg (AV.int .i64) (w64 (by omega) (by omega)), .refl _, .refl _, ?_, trivial⟩
              have hnx : outS a.mods s b (i + 1) = outS a.mods s b i ++ [a.mods[i]] := by rw [hst, if_neg (by omega), if_neg hne, List.append_nil]
              show SimRows _ [[AV.ow 2 (GLibMod.ros (outS a.mods s b (i + 1)))]]
              rw [hnx]
              exact boxSim (modSim a.mods[i] rfl)
            · exact absurd (by simpa using h6) hne
          · have h4 : posP a.mods s < i := by simpa using h4
            refine ⟨Int.natCast_nonneg _, _, hrow, fun h6 => ?_, fun h6 => ?_⟩
            · have h6 : a.mods[i].name ≠ s := by simpa using h6
              refine ⟨Int.natCast_nonneg _, _, hrow, Int.natCast_nonneg _, _, hrow, ?_⟩
              refine ⟨trivial, (by show (0 + (GByte.ros _).length) * 1 ≤ _; rw [byte_len]; omega), byte_plain _, ?_⟩
              refine ⟨trivial, (by show ((GLibMod.ros _).length + 1) * 40 ≤ _; rw [rosm_len]; omega), ⟨⟨trivial, trivial, trivial⟩, trivial⟩, by kernel_rfl, ?_⟩
              refine ⟨⟨i + 1, hi⟩, Nat.sub_succ_lt_self _ _ hi, rfl, rfl, rfl, rfl, rfl, rfl, rfl, rfl, congrArg AV.bool (decide_eq_decide.2 (show posP a.mods s < i ↔ posP a.mods s < i + 1 by omega)), congrArg (AV.int .i64) (w64 (by omega) (by omega)), .refl _, .refl _, ?_, trivial⟩
              have hnx : outS a.mods s b (i + 1) = outS a.mods s b i ++ [a.mods[i]] := by rw [hst, if_neg (by omega), if_neg h6, List.append_nil]
              show SimRows _ [[AV.ow 2 (GLibMod.ros (outS a.mods s b (i + 1)))]]
              rw [hnx]
              exact boxSim (modSim a.mods[i] rfl)
            · have h6 : a.mods[i].name = s := by simpa using h6
              refine ⟨⟨i + 1, hi⟩, Nat.sub_succ_lt_self _ _ hi, rfl, rfl, rfl, rfl, rfl, rfl, rfl, rfl, congrArg AV.bool (decide_eq_decide.2 (show posP a.mods s < i ↔ posP a.mods s < i + 1 by omega)), congrArg (AV.int .i64) (w64 (by omega) (by omega)), .refl _, .refl _, ?_, trivial⟩
              have hnx : outS a.mods s b (i + 1) = outS a.mods s b i := by rw [hst, if_neg (by omega), if_pos h6, List.append_nil, List.append_nil]
              show SimRows _ [[AV.ow 2 (GLibMod.ros (outS a.mods s b (i + 1)))]]
              rw [hnx]
              exact .refl _
        · have hi : i = a.mods.length := by omega
          subst hi
          have he := outS_end a.mods s b
          obtain ⟨g1, g2⟩ := putOut_good fa oa h hb3 hs
          have cL := spec_LibOk ⟨putOut a.mods s b⟩ g1 g2
          refine ⟨fun h4 => ?_, fun h4 => ?_⟩
          · have h4 : a.mods.length ≤ posP a.mods s := by simpa using h4
            rw [if_neg (by omega)] at he
            refine ⟨trivial, (by show ((GLibMod.ros _).length + 1) * 40 ≤ _; rw [rosm_len]; omega), ⟨⟨trivial, trivial, trivial⟩, trivial⟩, ?_⟩
            have hR : GLibMod.ros (outS a.mods s b a.mods.length) ++ [[AV.str s, .ro 1 (GByte.ros b)]] = GLibMod.ros (putOut a.mods s b) := by rw [he]; exact ros_snoc _ ⟨s, b⟩
            rw [hR]
            refine ⟨[.ro], .bool (libE (putOut a.mods s b)), [none], by rw [GLibMod.ror]; exact cL, ⟨trivial, trivial⟩, fun h6 => ?_, fun h6 => ?_⟩ <;> simp only [Bool.not_eq_true', Bool.not_eq_false'] at h6
            · have hd : putV a.mods s b = (a.mods, false) := by rw [putV, if_pos h, if_neg hb0, if_neg (by rw [h6]; simp)]
              rw [hd]
              refine ⟨[.ro], .agg (GLib.ro a), [none], cC, trivial, ?_⟩
              exact ⟨.refl _, trivial⟩
            · have hd : putV a.mods s b = (putOut a.mods s b, true) := by rw [putV, if_pos h, if_neg hb0, if_pos h6]
              rw [hd]
              refine ⟨.trans (.frz _) (.of_eq ?_), trivial⟩
              show AV.tup [.agg [.ro 2 (toRoRows (GLibMod.ros (putOut a.mods s b)))], _] = _
              rw [GLibMod.ror]; rfl
          · have h4 : posP a.mods s < a.mods.length := by simpa using h4
            rw [if_pos h4, List.append_nil] at he
            rw [← he]
            refine ⟨[.ro], .bool (libE (putOut a.mods s b)), [none], by rw [GLibMod.ror]; exact cL, ⟨trivial, trivial⟩, fun h6 => ?_, fun h6 => ?_⟩ <;> simp only [Bool.not_eq_true', Bool.not_eq_false'] at h6
            · have hd : putV a.mods s b = (a.mods, false) := by rw [putV, if_pos h, if_neg hb0, if_neg (by rw [h6]; simp)]
              rw [hd]
              refine ⟨[.ro], .agg (GLib.ro a), [none], cC, trivial, ?_⟩
              exact ⟨.refl _, trivial⟩
            · have hd : putV a.mods s b = (putOut a.mods s b, true) := by rw [putV, if_pos h, if_neg hb0, if_pos h6]
              rw [hd]
              refine ⟨.trans (.frz _) (.of_eq ?_), trivial⟩
              show AV.tup [.agg [.ro 2 (toRoRows (GLibMod.ros (putOut a.mods s b)))], _] = _
              rw [GLibMod.ror]; rfl
  · have hd : putV a.mods s b = (a.mods, false) := by rw [putV, if_neg (by rw [h]; simp)]
    rw [hd]
    refine ⟨[.ro], .agg (GLib.ro a), [none], cC, trivial, ?_⟩
    exact ⟨.refl _, trivial⟩
end Go.Proofs.VI
