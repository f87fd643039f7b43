/- Contracts of functions, and what they rest on: l17obj. -/
import Derived.Test.YtjlonhiojgljcaaGreatG1
set_option linter.unusedVariables false
set_option linter.unusedSimpArgs false
set_option maxRecDepth 10000
set_option maxHeartbeats 4000000
namespace Go.Proofs.VI
open Go
theorem bsum_snoc (l : List UInt8) (x : UInt8) : bsum (l ++ [x]) = bsum l + x.toNat := by
  induction l with
  | nil => simp [bsum]
  | cons y l ih => simp only [List.cons_append, bsum, ih]; omega
theorem bsum_take (l : List UInt8) (i : Nat) (h : i < l.length) : bsum (l.take (i + 1)) = bsum (l.take i) + l[i].toNat := by
  rw [List.take_add_one, List.getElem?_eq_getElem h]; exact bsum_snoc _ _
theorem bsum_le (l : List UInt8) : 0 ≤ bsum l ∧ bsum l ≤ 255 * l.length := by
  induction l with
  | nil => simp [bsum]
  | cons y l ih => have := UInt8.toNat_lt y; simp only [bsum, List.length_cons]; omega
theorem impl_SumOf (b : List UInt8) (hb : b.length ≤ 70368744177000) : Con 125 [.ro 1 (GByte.ros b)] (.int .i64 (sumB b)) [none] := by
  have hlen : (GByte.ros b).length = b.length := by simp
  refine con Tryz.func125 ?_
  refine ⟨{ i : Nat // i ≤ b.length }, fun i => ⟨[(3, .int .i64 (-(bsum (b.take i.1)))), (6, .ro 1 (GByte.ros b)), (7, .int .i64 b.length), (8, .int .i64 i.1)], []⟩, fun i => b.length - i.1, ⟨0, Nat.zero_le _⟩, ?_, ?_⟩
  · exact ⟨rfl, rfl, congrArg (AV.int .i64) (by rw [hlen]), rfl, trivial⟩
  · rintro ⟨i, hi⟩
    dsimp only
    refine ⟨fun h => ?_, fun h => ?_⟩ <;> simp only [decide_eq_true_eq, decide_eq_false_iff_not] at h
    · have hi : i < b.length := by omega
      have h1 := bsum_take b i hi
      have h2 := bsum_le (b.take i)
      have h3 := UInt8.toNat_lt b[i]
      simp only [List.length_take] at h2
      refine ⟨Int.natCast_nonneg _, _, byte_row hi, ⟨i + 1, hi⟩, by dsimp only; omega, congrArg (AV.int .i64) ?_, rfl, rfl, congrArg (AV.int .i64) (w64 (by omega) (by omega)), trivial⟩
      dsimp only
      rw [w64 (x := (b[i].toNat : Int)) (by omega) (by omega), w64 (by omega) (by omega), h1]; omega
    · refine ⟨[.ro], .int .i64 (wr16 (-(bsum (b.take i)))), [none], impl_Wrap _, trivial, .of_eq (congrArg (AV.int .i64) ?_), trivial⟩
      rw [List.take_of_length_le (by omega)]; rfl
theorem spec_SumOf (b : List UInt8) (hb : b.length ≤ 70368744177000) : Con 128 [.ro 1 (GByte.ros b)] (.int .i64 (sumB b)) [none] := by
  have hlen : (GByte.ros b).length = b.length := by simp
  refine con Tryz.func128 ?_
  refine ⟨{ i : Nat // i ≤ b.length }, fun i => ⟨[(0, .ro 1 (GByte.ros b)), (3, .int .i64 (sumB (b.take i.1))), (4, .int .i64 i.1)], []⟩, fun i => b.length - i.1, ⟨0, Nat.zero_le _⟩, ?_, ?_⟩
  · exact ⟨rfl, rfl, rfl, trivial⟩
  · rintro ⟨i, hi⟩
    dsimp only
    refine ⟨fun h => ?_, fun h => ?_⟩ <;> simp only [hlen, decide_eq_true_eq, decide_eq_false_iff_not] at h
    · have hi : i < b.length := by omega
      have h1 := bsum_take b i hi
      have h3 := UInt8.toNat_lt b[i]
      refine ⟨Int.natCast_nonneg _, _, byte_row hi, ?_⟩
      refine ⟨[.ro], .int .i64 (sumB (b.take (i + 1))), [none], ?_, trivial, ⟨i + 1, hi⟩, by dsimp only; omega, rfl, rfl, congrArg (AV.int .i64) (w64 (by omega) (by omega)), trivial⟩
      have e : sumB (b.take (i + 1)) = wr16 (sumB (b.take i) - b[i].toNat) := by
        rw [sumB, sumB, h1, wr16, wr16, wr16]; omega
      have hs : 0 ≤ sumB (b.take i) ∧ sumB (b.take i) < 65536 := by rw [sumB, wr16]; omega
      rw [w64 (x := (b[i].toNat : Int)) (by omega) (by omega), w64 (by omega) (by omega), e]
      exact spec_Wrap _
    · refine ⟨.of_eq (congrArg (AV.int .i64) ?_), trivial⟩
      rw [List.take_of_length_le (by omega)]
theorem impl_flag (v : Bool) : Con 124 [.bool v] (.int .i64 (if v = true then 1 else 0)) [none] := by
  refine con Tryz.func124 ?_
  refine ⟨fun h => ?_, fun h => ?_⟩ <;> subst h <;> exact ⟨.refl _, trivial⟩
def secB (s : GSect) : List UInt8 := bT s.name ++ bW (if s.over = true then 1 else 0) ++ bW s.words.length ++ (s.words.map putE).flatten
def glbB (g : GGlob) : List UInt8 := bT g.name ++ putE g.e
def hdB (o : GObj) : List UInt8 := bW 2935 ++ bW o.sects.length
def midB (o : GObj) : List UInt8 := hdB o ++ (o.sects.map secB).flatten ++ bW o.globs.length
def objB (o : GObj) : List UInt8 := midB o ++ (o.globs.map glbB).flatten
def objT (o : GObj) : List UInt8 := objB o ++ bW (sumB (objB o))
noncomputable def putObj (o : GObj) : List UInt8 := if objE o = true then (if 3000 < (objT o).length then [] else objT o) else []
theorem objT_len (o : GObj) : (objT o).length = (objB o).length + 2 := by rw [objT, List.length_append, bW_len]
theorem secB_len (s : GSect) : (secB s).length = (bT s.name).length + 4 + (s.words.map putE).flatten.length := by
  simp only [secB, List.length_append, bW_len]
theorem objB_parts {o : GObj} {i : Nat} (h : i < o.sects.length) : 4 + ((o.sects.take i).map secB).flatten.length + (secB o.sects[i]).length ≤ (objB o).length := by
  have e := flat_take secB o.sects i h
  have hle := flat_le secB o.sects (i + 1)
  rw [e, List.length_append] at hle
  simp only [objB, midB, hdB, List.length_append, bW_len]; omega
theorem midB_len (o : GObj) : (midB o).length ≤ (objB o).length := by rw [objB, List.length_append]; omega
theorem glb_parts {o : GObj} {i : Nat} (h : i < o.globs.length) : (midB o).length + ((o.globs.take i).map glbB).flatten.length + (glbB o.globs[i]).length ≤ (objB o).length := by
  have e := flat_take glbB o.globs i h
  have hle := flat_le glbB o.globs (i + 1)
  rw [e, List.length_append] at hle
  simp only [objB, List.length_append]; omega
theorem impl_PutObj (o : GObj) (fo : GObj.fit o) (oo : GObj.ok o) (hp : (objB o).length ≤ 70368744000000) : Con 58 [.agg (GObj.ro o)] (.ow 1 (GByte.ows (putObj o))) [none] := by
  have uo := GObj.fit_un fo
  have vo := GObj.ok_un oo
  have ls : (GSect.ros o.sects).length = o.sects.length := by simp
  have lg : (GGlob.ros o.globs).length = o.globs.length := by simp
  have hT := objT_len o
  refine con Tryz.func58 ?_
  refine ⟨[.ro], .bool (objE o), [none], impl_ObjOk o fo oo, trivial, fun h => ?_, fun h => ?_⟩ <;> simp only [Bool.not_eq_true', Bool.not_eq_false'] at h
  · refine ⟨.of_eq (congrArg (AV.ow 1) ?_), trivial⟩
    rw [putObj, if_neg (by simp [h])]; rfl
  · have e1 : putObj o = if 3000 < (objT o).length then [] else objT o := by rw [putObj, if_pos h]
    rw [e1]
    refine ⟨[.ro, .ro], .ow 1 (GByte.ows (bW 2935)), [none, none], .le (.cons (.nilr 1) (.refl _)) (impl_PutW [] 2935 (by simp)), trivial, ?_⟩
    refine ⟨[.ro, .ro], .ow 1 (GByte.ows (hdB o)), [none, none], (by rw [GByte.roo, ls]; exact impl_PutW (bW 2935) o.sects.length (by simp [bW_len])), ⟨GByte.nro _, trivial⟩, by kernel_rfl, ?_⟩
    refine ⟨{ i : Nat // i ≤ o.sects.length }, fun i => ⟨[(1, .ptr 0 0 0), (3, .own 1), (19, .ro 3 (GSect.ros o.sects)), (20, .int .i64 o.sects.length), (21, .int .i64 i.1)], [(0, .box (GObj.ro o) []), (1, .rows 1 (GByte.ows (hdB o ++ ((o.sects.take i.1).map secB).flatten)) [])]⟩, fun i => o.sects.length - i.1, ⟨0, Nat.zero_le _⟩, ?_, ?_⟩
    · exact ⟨rfl, rfl, rfl, congrArg (AV.int .i64) (by rw [ls]), rfl, .refl _, rfl, .of_eq (congrArg GByte.ows (List.append_nil _).symm), trivial⟩
    · rintro ⟨i, hi⟩
      dsimp only
      refine ⟨fun h => ?_, fun h => ?_⟩ <;> simp only [decide_eq_true_eq, decide_eq_false_iff_not] at h
      · have hi : i < o.sects.length := by omega
        have us := GSect.fit_un (uo.1.2 _ (List.getElem_mem hi))
        have vs := GSect.ok_un (vo.1.2 _ (List.getElem_mem hi))
        have lw := ros_len o.sects[i].words
        have hB := objB_parts hi
        have hS := secB_len o.sects[i]
        have hl : (hdB o ++ ((o.sects.take i).map secB).flatten).length = 4 + ((o.sects.take i).map secB).flatten.length := by simp [hdB, bW_len]; omega
        generalize hX : hdB o ++ ((o.sects.take i).map secB).flatten = X at hl
        refine ⟨Int.natCast_nonneg _, _, sect_at hi, ?_⟩
        refine ⟨[.ro, .ro], .ow 1 (GByte.ows (X ++ bT o.sects[i].name)), [none, none], (by rw [GByte.roo]; exact impl_PutText X o.sects[i].name (by omega) vs.1), ⟨GByte.nro _, trivial⟩, ?_⟩
        refine ⟨[.ro], .int .i64 (if o.sects[i].over = true then 1 else 0), [none], impl_flag _, trivial, ?_⟩
        refine ⟨[.ro, .ro], .ow 1 (GByte.ows (X ++ bT o.sects[i].name ++ bW (if o.sects[i].over = true then 1 else 0))), [none, none], (by rw [GByte.roo]; exact impl_PutW (X ++ bT o.sects[i].name) _ (by simp only [List.length_append]; omega)), ⟨GByte.nro _, trivial⟩, ?_⟩
        refine ⟨[.ro, .ro], .ow 1 (GByte.ows (X ++ bT o.sects[i].name ++ bW (if o.sects[i].over = true then 1 else 0) ++ bW o.sects[i].words.length)), [none, none], (by rw [GByte.roo, lw]; exact impl_PutW (X ++ bT o.sects[i].name ++ bW (if o.sects[i].over = true then 1 else 0)) _ (by simp only [List.length_append, bW_len]; omega)), ⟨GByte.nro _, trivial⟩, by kernel_rfl, ?_⟩
        have hl2 : (X ++ bT o.sects[i].name ++ bW (if o.sects[i].over = true then 1 else 0) ++ bW o.sects[i].words.length).length = X.length + (bT o.sects[i].name).length + 4 := by simp only [List.length_append, bW_len]
        have hE : hdB o ++ ((o.sects.take (i + 1)).map secB).flatten = (X ++ bT o.sects[i].name ++ bW (if o.sects[i].over = true then 1 else 0) ++ bW o.sects[i].words.length) ++ (o.sects[i].words.map putE).flatten := by
          rw [flat_take secB o.sects i hi, ← List.append_assoc, hX, secB]
          simp only [List.append_assoc]
        generalize X ++ bT o.sects[i].name ++ bW (if o.sects[i].over = true then 1 else 0) ++ bW o.sects[i].words.length = Y at hl2 hE
        generalize hw : o.sects[i].words = ws at *
        refine ⟨{ k : Nat // k ≤ ws.length }, fun k => ⟨[(1, .ptr 0 0 0), (3, .own 1), (19, .ro 3 (GSect.ros o.sects)), (20, .int .i64 o.sects.length), (21, .int .i64 i), (38, .ro 4 (GExpr.ros ws)), (39, .int .i64 ws.length), (40, .int .i64 k.1)], [(0, .box (GObj.ro o) []), (1, .rows 1 (GByte.ows (Y ++ ((ws.take k.1).map putE).flatten)) [])]⟩, fun k => ws.length - k.1, ⟨0, Nat.zero_le _⟩, ?_, ?_⟩
        · exact ⟨rfl, rfl, rfl, rfl, rfl, rfl, congrArg (AV.int .i64) (by rw [lw]), rfl, .refl _, rfl, .of_eq (congrArg GByte.ows (List.append_nil _).symm), trivial⟩
        · rintro ⟨k, hk⟩
          dsimp only
          refine ⟨fun h => ?_, fun h => ?_⟩ <;> simp only [decide_eq_true_eq, decide_eq_false_iff_not] at h
          · have hk : k < ws.length := by omega
            have e := flat_take putE ws k hk
            have hle := flat_le putE ws (k + 1)
            rw [e, List.length_append] at hle
            refine ⟨Int.natCast_nonneg _, _, ros_get _ _ hk, ?_⟩
            refine ⟨[.ro], .ow 1 (GByte.ows (putE ws[k])), [none], impl_putExpr ws[k] (us.2 _ (List.getElem_mem hk)) (vs.2.2.2 _ (List.getElem_mem hk)) (by omega), trivial, trivial, ?_, byte_plain _, ?_⟩
            · show ((GByte.ows (Y ++ ((ws.take k).map putE).flatten)).length + (GByte.ows (putE ws[k])).length) * 1 ≤ _
              rw [byte_len, byte_len, List.length_append]; omega
            refine ⟨⟨k + 1, hk⟩, by dsimp only; omega, rfl, rfl, rfl, rfl, rfl, rfl, rfl, congrArg (AV.int .i64) (w64 (by omega) (by omega)), .refl _, rfl, .of_eq ?_, trivial⟩
            dsimp only
            rw [e, ← List.append_assoc, ← byte_app (Y ++ _)]
          · refine ⟨⟨i + 1, hi⟩, by dsimp only; omega, rfl, rfl, rfl, rfl, congrArg (AV.int .i64) (w64 (by omega) (by omega)), .refl _, rfl, .of_eq (congrArg GByte.ows ?_), trivial⟩
            dsimp only
            rw [hE, List.take_of_length_le (by omega)]
      · rw [List.take_of_length_le (show o.sects.length ≤ i by omega)]
        have hm := midB_len o
        have hml : (midB o).length = (hdB o ++ (o.sects.map secB).flatten).length + 2 := by rw [midB, List.length_append, bW_len]
        refine ⟨[.ro, .ro], .ow 1 (GByte.ows (midB o)), [none, none], (by rw [GByte.roo, lg]; exact impl_PutW _ _ (by omega)), ⟨GByte.nro _, trivial⟩, ?_⟩
        refine ⟨{ i : Nat // i ≤ o.globs.length }, fun i => ⟨[(3, .own 1), (56, .ro 5 (GGlob.ros o.globs)), (57, .int .i64 o.globs.length), (58, .int .i64 i.1)], [(1, .rows 1 (GByte.ows (midB o ++ ((o.globs.take i.1).map glbB).flatten)) [])]⟩, fun i => o.globs.length - i.1, ⟨0, Nat.zero_le _⟩, ?_, ?_⟩
        · exact ⟨rfl, congrArg (AV.int .i64) (by rw [lg]), rfl, rfl, .of_eq (congrArg GByte.ows (List.append_nil _).symm), trivial⟩
        · rintro ⟨i, hi⟩
          dsimp only
          refine ⟨fun h => ?_, fun h => ?_⟩ <;> simp only [decide_eq_true_eq, decide_eq_false_iff_not] at h
          · have hi : i < o.globs.length := by omega
            have ug := GGlob.fit_un (uo.2.2 _ (List.getElem_mem hi))
            have vg := GGlob.ok_un (vo.2.2 _ (List.getElem_mem hi))
            have hB := glb_parts hi
            have hG : (glbB o.globs[i]).length = (bT o.globs[i].name).length + (putE o.globs[i].e).length := by rw [glbB, List.length_append]
            have hl : (midB o ++ ((o.globs.take i).map glbB).flatten).length = (midB o).length + ((o.globs.take i).map glbB).flatten.length := List.length_append
            have hE : midB o ++ ((o.globs.take (i + 1)).map glbB).flatten = (midB o ++ ((o.globs.take i).map glbB).flatten) ++ bT o.globs[i].name ++ putE o.globs[i].e := by
              rw [flat_take glbB o.globs i hi, glbB]
              simp only [List.append_assoc]
            generalize midB o ++ ((o.globs.take i).map glbB).flatten = X at hl hE
            refine ⟨Int.natCast_nonneg _, _, glob_row hi, ?_⟩
            refine ⟨[.ro, .ro], .ow 1 (GByte.ows (X ++ bT o.globs[i].name)), [none, none], (by rw [GByte.roo]; exact impl_PutText X o.globs[i].name (by omega) vg.1), ⟨GByte.nro _, trivial⟩, ?_⟩
            refine ⟨[.ro], .ow 1 (GByte.ows (putE o.globs[i].e)), [none], impl_putExpr o.globs[i].e ug vg.2 (by omega), trivial, trivial, ?_, byte_plain _, by kernel_rfl, ?_⟩
            · show ((GByte.ows (X ++ bT o.globs[i].name)).length + (GByte.ows (putE o.globs[i].e)).length) * 1 ≤ _
              rw [byte_len, byte_len, List.length_append]; omega
            refine ⟨⟨i + 1, hi⟩, by dsimp only; omega, rfl, rfl, congrArg (AV.int .i64) (w64 (by omega) (by omega)), rfl, .of_eq ?_, trivial⟩
            dsimp only
            rw [hE, byte_app]
          · have eB : midB o ++ ((o.globs.take i).map glbB).flatten = objB o := by rw [List.take_of_length_le (show o.globs.length ≤ i by omega), objB]
            rw [eB]
            refine ⟨[.ro], .int .i64 (sumB (objB o)), [none], (by rw [GByte.roo]; exact impl_SumOf (objB o) (by omega)), ⟨trivial, trivial⟩, ?_⟩
            refine ⟨[.ro, .ro], .ow 1 (GByte.ows (objT o)), [none, none], (by rw [GByte.roo]; exact impl_PutW (objB o) _ (by omega)), ⟨GByte.nro _, trivial⟩, fun h => ?_, fun h => ?_⟩ <;> simp only [decide_eq_true_eq, decide_eq_false_iff_not, byte_len] at h
            · exact ⟨.of_eq (congrArg (AV.ow 1) (by rw [if_pos (by omega)]; rfl)), trivial⟩
            · exact ⟨.of_eq (congrArg (AV.ow 1) (by rw [if_neg (by omega)])), trivial⟩
theorem spec_PutObj (o : GObj) (fo : GObj.fit o) (oo : GObj.ok o) (hp : (objB o).length ≤ 70368744000000) : Con 63 [.agg (GObj.ro o)] (.ow 1 (GByte.ows (putObj o))) [none] := by
  have uo := GObj.fit_un fo
  have vo := GObj.ok_un oo
  have ls : (GSect.ros o.sects).length = o.sects.length := by simp
  have lg : (GGlob.ros o.globs).length = o.globs.length := by simp
  have hT := objT_len o
  refine con Tryz.func63 ?_
  refine ⟨[.ro], .bool (objE o), [none], spec_ObjOk o fo oo, trivial, fun h => ?_, fun h => ?_⟩ <;> simp only [Bool.not_eq_true', Bool.not_eq_false'] at h
  · refine ⟨.of_eq (congrArg (AV.ow 1) ?_), trivial⟩
    rw [putObj, if_neg (by simp [h])]; rfl
  · have e1 : putObj o = if 3000 < (objT o).length then [] else objT o := by rw [putObj, if_pos h]
    rw [e1]
    refine ⟨[.ro, .ro], .ow 1 (GByte.ows (bW 2935)), [none, none], spec_PutW [] 2935 (by simp), ⟨GByte.nro _, trivial⟩, ?_⟩
    refine ⟨[.ro, .ro], .ow 1 (GByte.ows (hdB o)), [none, none], (by rw [GByte.roo, ls]; exact spec_PutW (bW 2935) o.sects.length (by simp [bW_len])), ⟨GByte.nro _, trivial⟩, by kernel_rfl, ?_⟩
    refine ⟨{ i : Nat // i ≤ o.sects.length }, fun i => ⟨[(1, .ptr 0 0 0), (3, .own 1), (4, .int .i64 i.1)], [(0, .box (GObj.ro o) []), (1, .rows 1 (GByte.ows (hdB o ++ ((o.sects.take i.1).map secB).flatten)) [])]⟩, fun i => o.sects.length - i.1, ⟨0, Nat.zero_le _⟩, ?_, ?_⟩
    · exact ⟨rfl, rfl, rfl, .refl _, rfl, .of_eq (congrArg GByte.ows (List.append_nil _).symm), trivial⟩
    · rintro ⟨i, hi⟩
      dsimp only
      refine ⟨fun h => ?_, fun h => ?_⟩ <;> simp only [ls, decide_eq_true_eq, decide_eq_false_iff_not] at h
      · have hi : i < o.sects.length := by omega
        have us := GSect.fit_un (uo.1.2 _ (List.getElem_mem hi))
        have vs := GSect.ok_un (vo.1.2 _ (List.getElem_mem hi))
        have lw := ros_len o.sects[i].words
        have hB := objB_parts hi
        have hS := secB_len o.sects[i]
        have hl : (hdB o ++ ((o.sects.take i).map secB).flatten).length = 4 + ((o.sects.take i).map secB).flatten.length := by simp [hdB, bW_len]; omega
        generalize hX : hdB o ++ ((o.sects.take i).map secB).flatten = X at hl
        have hr := sect_at hi
        have hl2 : (X ++ bT o.sects[i].name ++ bW (if o.sects[i].over = true then 1 else 0) ++ bW o.sects[i].words.length).length = X.length + (bT o.sects[i].name).length + 4 := by simp only [List.length_append, bW_len]
        have hE : hdB o ++ ((o.sects.take (i + 1)).map secB).flatten = (X ++ bT o.sects[i].name ++ bW (if o.sects[i].over = true then 1 else 0) ++ bW o.sects[i].words.length) ++ (o.sects[i].words.map putE).flatten := by
          rw [flat_take secB o.sects i hi, ← List.append_assoc, hX, secB]
          simp only [List.append_assoc]
        have c1 := spec_PutText X o.sects[i].name (by omega) vs.1
        have c2 : ∀ v : Int, Con 127 _ _ _ := fun v => spec_PutW (X ++ bT o.sects[i].name) v (by simp only [List.length_append]; omega)
        have c3 : ∀ v : Int, Con 127 _ _ _ := fun v => spec_PutW (X ++ bT o.sects[i].name ++ bW v) o.sects[i].words.length (by simp only [List.length_append, bW_len]; omega)
        refine ⟨Int.natCast_nonneg _, _, hr, fun h => ?_, fun h => ?_⟩
        all_goals
          (refine ⟨Int.natCast_nonneg _, _, hr, ?_⟩
           refine ⟨[.ro, .ro], .ow 1 (GByte.ows (X ++ bT o.sects[i].name)), [none, none], (by rw [GByte.roo]; exact c1), ⟨GByte.nro _, trivial⟩, ?_⟩
           refine ⟨[.ro, .ro], .ow 1 (GByte.ows (X ++ bT o.sects[i].name ++ bW (if o.sects[i].over = true then 1 else 0))), [none, none], (by rw [GByte.roo, h]; exact c2 _), ⟨GByte.nro _, trivial⟩, ?_⟩
           refine ⟨Int.natCast_nonneg _, _, hr, ?_⟩
           refine ⟨[.ro, .ro], .ow 1 (GByte.ows (X ++ bT o.sects[i].name ++ bW (if o.sects[i].over = true then 1 else 0) ++ bW o.sects[i].words.length)), [none, none], (by rw [GByte.roo, lw]; exact c3 _), ⟨GByte.nro _, trivial⟩, by kernel_rfl, ?_⟩
           generalize X ++ bT o.sects[i].name ++ bW (if o.sects[i].over = true then 1 else 0) ++ bW o.sects[i].words.length = Y at hl2 hE
           refine ⟨{ k : Nat // k ≤ o.sects[i].words.length }, fun k => ⟨[(1, .ptr 0 0 0), (3, .own 1), (4, .int .i64 i), (6, .int .i64 k.1)], [(0, .box (GObj.ro o) []), (1, .rows 1 (GByte.ows (Y ++ ((o.sects[i].words.take k.1).map putE).flatten)) [])]⟩, fun k => o.sects[i].words.length - k.1, ⟨0, Nat.zero_le _⟩, ?_, ?_⟩
           · exact ⟨rfl, rfl, rfl, rfl, .refl _, rfl, .of_eq (congrArg GByte.ows (List.append_nil _).symm), trivial⟩
           · rintro ⟨k, hk⟩
             dsimp only
             refine ⟨Int.natCast_nonneg _, _, hr, fun h => ?_, fun h => ?_⟩ <;> simp only [lw, decide_eq_true_eq, decide_eq_false_iff_not] at h
             · have hk : k < o.sects[i].words.length := by omega
               have e := flat_take putE o.sects[i].words k hk
               have hle := flat_le putE o.sects[i].words (k + 1)
               rw [e, List.length_append] at hle
               refine ⟨Int.natCast_nonneg _, _, hr, Int.natCast_nonneg _, _, ros_get _ _ hk, ?_⟩
               refine ⟨[.ro, .ro], .ow 1 (GByte.ows ((Y ++ ((o.sects[i].words.take k).map putE).flatten) ++ putE o.sects[i].words[k])), [none, none], (by rw [GByte.roo]; exact spec_l17Put o.sects[i].words[k] _ (us.2 _ (List.getElem_mem hk)) (vs.2.2.2 _ (List.getElem_mem hk)) (by simp only [List.length_append]; omega)), ⟨GByte.nro _, trivial⟩, ?_⟩
               refine ⟨⟨k + 1, hk⟩, by dsimp only; omega, rfl, rfl, rfl, congrArg (AV.int .i64) (w64 (by omega) (by omega)), .refl _, rfl, .of_eq (congrArg GByte.ows ?_), trivial⟩
               dsimp only
               rw [e, ← List.append_assoc]
             · refine ⟨⟨i + 1, hi⟩, by dsimp only; omega, rfl, rfl, congrArg (AV.int .i64) (w64 (by omega) (by omega)), .refl _, rfl, .of_eq (congrArg GByte.ows ?_), trivial⟩
               dsimp only
               rw [hE, List.take_of_length_le (show o.sects[i].words.length ≤ k by omega)])
      · rw [List.take_of_length_le (show o.sects.length ≤ i by omega)]
        have hm := midB_len o
        have hml : (midB o).length = (hdB o ++ (o.sects.map secB).flatten).length + 2 := by rw [midB, List.length_append, bW_len]
        refine ⟨[.ro, .ro], .ow 1 (GByte.ows (midB o)), [none, none], (by rw [GByte.roo, lg]; exact spec_PutW _ _ (by omega)), ⟨GByte.nro _, trivial⟩, ?_⟩
        refine ⟨{ i : Nat // i ≤ o.globs.length }, fun i => ⟨[(1, .ptr 0 0 0), (3, .own 1), (7, .int .i64 i.1)], [(0, .box (GObj.ro o) []), (1, .rows 1 (GByte.ows (midB o ++ ((o.globs.take i.1).map glbB).flatten)) [])]⟩, fun i => o.globs.length - i.1, ⟨0, Nat.zero_le _⟩, ?_, ?_⟩
        · exact ⟨rfl, rfl, rfl, .refl _, rfl, .of_eq (congrArg GByte.ows (List.append_nil _).symm), trivial⟩
        · rintro ⟨i, hi⟩
          dsimp only
          refine ⟨fun h => ?_, fun h => ?_⟩ <;> simp only [lg, decide_eq_true_eq, decide_eq_false_iff_not] at h
          · have hi : i < o.globs.length := by omega
            have ug := GGlob.fit_un (uo.2.2 _ (List.getElem_mem hi))
            have vg := GGlob.ok_un (vo.2.2 _ (List.getElem_mem hi))
            have hB := glb_parts hi
            have hG : (glbB o.globs[i]).length = (bT o.globs[i].name).length + (putE o.globs[i].e).length := by rw [glbB, List.length_append]
            have hl : (midB o ++ ((o.globs.take i).map glbB).flatten).length = (midB o).length + ((o.globs.take i).map glbB).flatten.length := List.length_append
            have hE : midB o ++ ((o.globs.take (i + 1)).map glbB).flatten = (midB o ++ ((o.globs.take i).map glbB).flatten) ++ bT o.globs[i].name ++ putE o.globs[i].e := by
              rw [flat_take glbB o.globs i hi, glbB]
              simp only [List.append_assoc]
            generalize midB o ++ ((o.globs.take i).map glbB).flatten = X at hl hE
            refine ⟨Int.natCast_nonneg _, _, glob_row hi, ?_⟩
            refine ⟨[.ro, .ro], .ow 1 (GByte.ows (X ++ bT o.globs[i].name)), [none, none], (by rw [GByte.roo]; exact spec_PutText X o.globs[i].name (by omega) vg.1), ⟨GByte.nro _, trivial⟩, ?_⟩
            refine ⟨Int.natCast_nonneg _, _, glob_row hi, ?_⟩
            refine ⟨[.ro, .ro], .ow 1 (GByte.ows ((X ++ bT o.globs[i].name) ++ putE o.globs[i].e)), [none, none], (by rw [GByte.roo]; exact spec_l17Put o.globs[i].e _ ug vg.2 (by simp only [List.length_append]; omega)), ⟨GByte.nro _, trivial⟩, by kernel_rfl, ?_⟩
            refine ⟨⟨i + 1, hi⟩, by dsimp only; omega, rfl, rfl, congrArg (AV.int .i64) (w64 (by omega) (by omega)), .refl _, rfl, .of_eq (congrArg GByte.ows ?_), trivial⟩
            dsimp only
            rw [hE]
          · have eB : midB o ++ ((o.globs.take i).map glbB).flatten = objB o := by rw [List.take_of_length_le (show o.globs.length ≤ i by omega), objB]
            rw [eB]
            refine ⟨[.ro], .int .i64 (sumB (objB o)), [none], (by rw [GByte.roo]; exact spec_SumOf (objB o) (by omega)), ⟨trivial, trivial⟩, ?_⟩
            refine ⟨[.ro, .ro], .ow 1 (GByte.ows (objT o)), [none, none], (by rw [GByte.roo]; exact spec_PutW (objB o) _ (by omega)), ⟨GByte.nro _, trivial⟩, fun h => ?_, fun h => ?_⟩ <;> simp only [decide_eq_true_eq, decide_eq_false_iff_not, byte_len] at h
            · exact ⟨.of_eq (congrArg (AV.ow 1) (by rw [if_pos (by omega)]; rfl)), trivial⟩
            · exact ⟨.of_eq (congrArg (AV.ow 1) (by rw [if_neg (by omega)])), trivial⟩
theorem flat_bulk {α : Type} (f : α → List UInt8) (bk : α → Nat) (l : List α) (h : ∀ x ∈ l, (f x).length ≤ 8 + 8 * bk x) : (l.map f).flatten.length ≤ 8 * bulkS bk l := by
  induction l with
  | nil => simp
  | cons x l ih =>
    have := h x (by simp)
    have := ih fun y hy => h y (by simp [hy])
    simp only [List.map_cons, List.flatten_cons, List.length_append, bulkS]; omega
theorem bT_len (s : ByteArray) : (bT s).length ≤ 2 + s.size := by
  rw [bT]; split
  · simp
  · simp [bW, bl_len]; omega
theorem objB_len (o : GObj) : (objB o).length ≤ 6 + 8 * GObj.bulk o := by
  have h1 := flat_bulk secB GSect.bulk o.sects fun s _ => by
    have e1 := secB_len s
    have e2 := bT_len s.name
    have e3 := flat_bulk putE GExpr.bulk s.words fun e _ => by have := putE_len e; omega
    have e4 := GSect.bulk_un s
    omega
  have h2 := flat_bulk glbB GGlob.bulk o.globs fun g _ => by
    have e1 : (glbB g).length = (bT g.name).length + (putE g.e).length := by rw [glbB, List.length_append]
    have e2 := bT_len g.name
    have e3 := putE_len g.e
    have e4 := GGlob.bulk_un g
    omega
  have h3 := GObj.bulk_un o
  simp only [objB, midB, hdB, List.length_append, bW_len]; omega
theorem putObj_len (o : GObj) : (putObj o).length ≤ 3000 := by
  rw [putObj]
  split
  · split
    · simp
    · omega
  · simp
end Go.Proofs.VI
