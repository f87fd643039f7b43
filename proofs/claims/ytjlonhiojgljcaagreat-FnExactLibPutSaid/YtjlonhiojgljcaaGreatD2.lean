/- Contracts of functions, and what they rest on: harness. -/
import Derived.Test.YtjlonhiojgljcaaGreatD1
import Derived.Test.YtjlonhiojgljcaaGreatT
set_option linter.unusedVariables false
set_option linter.unusedSimpArgs false
set_option maxRecDepth 10000
set_option maxHeartbeats 4000000
namespace Go.Proofs.VI
open Go
theorem sz_ByteS (l : List GByte) (left : Int) (h0 : 0 ≤ left) (h1 : left ≤ 1048576) (hl : l.length ≤ 9223372036854775807) (hs : ∀ x ∈ l, GByte.ok x) :
    Con 201 [.ro 1 (GByte.ros l), .int .i64 left] (.int .i64 (szV left (bulkS GByte.bulk l))) [none, none] := by
  rw [GByte.ros_eq]
  refine con Tryz.func201 ?_
  have hlen : (l.map GByte.ro).length = l.length := by simp
  have hb := bulkS_len GByte.bulk l
  have hz : bulkS GByte.bulk l = l.length := bulkS_zero _ (fun _ => rfl) l
  refine ⟨fun h => ⟨.i64 ?_, trivial⟩, fun h => ⟨.i64 ?_, trivial⟩⟩ <;> (simp (disch := omega) only [hlen, w64, decide_eq_true_eq, decide_eq_false_iff_not] at h ⊢)
  · rw [szV_lt (by omega)]
  · rw [szV_ge (by omega)]; omega
theorem to_ByteS (l : List GByte) (hl : l.length ≤ 1099511627776) (hf : ∀ x ∈ l, GByte.fit x) :
    Con 202 [.ro 1 (GByte.ros l)] (.ow 1 (GByte.ows l)) [none] := by
  rw [GByte.ros_eq, GByte.ows_eq]
  refine con Tryz.func202 ?_
  have hlen : (l.map GByte.ro).length = l.length := by simp
  have hlen2 : (l.map GByte.ow).length = l.length := by simp
  refine ⟨rfl, Int.natCast_nonneg _, ?_, ?_⟩
  · show (((l.map GByte.ro).length : Int)) * 1 ≤ _
    omega
  refine ⟨{ i : Nat // i ≤ l.length }, fun i => ⟨[(0, .ro 1 (l.map GByte.ro)), (3, .own 0), (4, .int .i64 i.1)], [(0, .rows 1 ((l.map GByte.ow).take i.1 ++ List.replicate (l.length - i.1) [AV.int .u8 0]) [])]⟩, fun i => l.length - i.1, ⟨0, by omega⟩, ?_, ?_⟩
  · refine ⟨rfl, rfl, rfl, .of_eq ?_, trivial⟩
    show List.replicate (Int.toNat ((l.map GByte.ro).length : Int)) [AV.int .u8 0] = List.replicate (l.length - 0) [AV.int .u8 0]
    rw [hlen]; rfl
  · rintro ⟨i, hi⟩
    dsimp only
    refine ⟨fun h => ?_, fun h => ?_⟩ <;> simp only [hlen, decide_eq_true_eq, decide_eq_false_iff_not] at h
    · have hi : i < l.length := by omega
      have hlt : i < ((l.map GByte.ow).take i ++ List.replicate (l.length - i) ([AV.int .u8 0] : List AV)).length := by simp; omega
      refine ⟨Int.natCast_nonneg _, _, map_get _ _ hi, Int.natCast_nonneg _, ?_, [AV.int .u8 0], get_take_repl _ _ _ _ hi hlen2.symm, ⟨i + 1, by omega⟩, ?_, ?_⟩
      · simp; omega
      · dsimp only; omega
      · refine ⟨rfl, congrArg (AV.int .i64) (w64 (by omega) (by omega)), rfl, .of_eq ?_, trivial⟩
        have e := set_take_repl (l.map GByte.ow) [AV.int .u8 0] i l.length (by simpa using hi) hlen2.symm
        rw [List.getElem_map] at e
        exact e
    · refine ⟨.of_eq (congrArg (AV.ow 1) ?_), trivial⟩
      rw [show i = l.length by omega, Nat.sub_self, List.replicate_zero, List.append_nil, List.take_of_length_le (by simp)]
theorem eq_ByteS (l : List GByte) (hl : l.length ≤ 1099511627776) (hf : ∀ x ∈ l, GByte.fit x) :
    Con 214 [.ro 1 (GByte.ros l), .ro 1 (GByte.ros l)] (.bool true) [none, none] := by
  rw [GByte.ros_eq]
  refine con Tryz.func214 ?_
  have hlen : (l.map GByte.ro).length = l.length := by simp
  refine ⟨fun h => absurd rfl (of_decide_eq_true h), fun h => ?_⟩
  refine ⟨{ i : Nat // i ≤ l.length }, fun i => ⟨[(0, .ro 1 (l.map GByte.ro)), (1, .ro 1 (l.map GByte.ro)), (5, .int .i64 i.1)], []⟩, fun i => l.length - i.1, ⟨0, by omega⟩, ?_, ?_⟩
  · exact ⟨rfl, rfl, rfl, trivial⟩
  · rintro ⟨i, hi⟩
    dsimp only
    refine ⟨fun h => ?_, fun h => ?_⟩ <;> simp only [hlen, decide_eq_true_eq, decide_eq_false_iff_not] at h
    · have hi : i < l.length := by omega
      refine ⟨Int.natCast_nonneg _, _, map_get _ _ hi, Int.natCast_nonneg _, _, map_get _ _ hi, rfl, fun h => absurd rfl (of_decide_eq_true h), fun h => ⟨⟨i + 1, by omega⟩, by dsimp only; omega, rfl, rfl, congrArg (AV.int .i64) (w64 (by omega) (by omega)), trivial⟩⟩
    · exact ⟨.refl _, trivial⟩
theorem sz_Expr_of (a : GExpr) (left : Int) (h0 : 0 ≤ left) (h1 : left ≤ 1048576) (ho : GExpr.ok a) (ihs : ∀ left : Int, 0 ≤ left → left ≤ 1048576 → Con 227 [.ro 4 (GExpr.ros a.l), .int .i64 left] (.int .i64 (szV left (bulkS GExpr.bulk a.l))) [none, none]) :
    Con 228 [.agg (GExpr.ro a), .int .i64 left] (.int .i64 (szV left (GExpr.bulk a))) [none, none] := by
  refine con Tryz.func228 ?_
  have hB := GExpr.bulk_un a
  obtain ⟨o0, o1, o2, o3⟩ := GExpr.ok_un ho
  have e2 : IntKind.wrap .i64 (left - (a.s.size : Int)) = left - a.s.size := w64 (by omega) (by omega)
  refine ⟨fun h => ⟨.i64 ?_, trivial⟩, fun h => ?_⟩ <;> simp only [decide_eq_true_eq, decide_eq_false_iff_not] at h
  · rw [szV_lt (by omega)]
  refine ⟨[.ro, .ro], .int .i64 (szV (IntKind.wrap .i64 (left - (a.s.size : Int))) (bulkS GExpr.bulk a.l)), [none, none], ihs (IntKind.wrap .i64 (left - (a.s.size : Int))) (by omega) (by omega), trivial, ?_⟩
  refine ⟨fun h => ⟨.i64 ?_, trivial⟩, fun h => ?_⟩ <;> simp only [decide_eq_true_eq, decide_eq_false_iff_not] at h
  · have := szV_neg (by omega) h
    rw [szV_lt (by omega)]
  have e3 := szV_nneg h
  refine ⟨.i64 ?_, trivial⟩
  rw [show szV left (GExpr.bulk a) = _ from szV_ge (by omega)]; omega
theorem sz_ExprS_of (l : List GExpr) (left : Int) (h0 : 0 ≤ left) (h1 : left ≤ 1048576) (hl : l.length ≤ 9223372036854775807) (hs : ∀ x ∈ l, GExpr.ok x) (ih : ∀ x ∈ l, ∀ left : Int, 0 ≤ left → left ≤ 1048576 → Con 228 [.agg (GExpr.ro x), .int .i64 left] (.int .i64 (szV left (GExpr.bulk x))) [none, none]) :
    Con 227 [.ro 4 (GExpr.ros l), .int .i64 left] (.int .i64 (szV left (bulkS GExpr.bulk l))) [none, none] := by
  rw [GExpr.ros_eq]
  refine con Tryz.func227 ?_
  have hlen : (l.map GExpr.ro).length = l.length := by simp
  have hb := bulkS_len GExpr.bulk l
  refine ⟨fun h => ⟨.i64 ?_, trivial⟩, fun h => ?_⟩ <;> (simp (disch := omega) only [hlen, w64, decide_eq_true_eq, decide_eq_false_iff_not] at h)
  · rw [szV_lt (by omega)]
  refine ⟨{ p : Nat × Int // p.1 ≤ l.length ∧ 0 ≤ p.2 ∧ p.2 ≤ 1048576 ∧ p.2 + (l.length - p.1 : Nat) - bulkS GExpr.bulk (l.drop p.1) = left - bulkS GExpr.bulk l },
    fun p => ⟨[(0, .ro 4 (l.map GExpr.ro)), (1, .int .i64 p.1.2), (5, .int .i64 p.1.1)], []⟩, fun p => l.length - p.1.1, ⟨(0, left - l.length), by omega, by omega, by omega, by simp⟩, ?_, ?_⟩
  · simp (disch := omega) only [hlen, w64]
    exact ⟨rfl, rfl, rfl, trivial⟩
  rintro ⟨⟨i, x⟩, hi, hx0, hx1, hx⟩
  dsimp only at hi hx0 hx1 hx ⊢
  refine ⟨fun h => ?_, fun h => ⟨.i64 ?_, trivial⟩⟩ <;> simp only [hlen, decide_eq_true_eq, decide_eq_false_iff_not] at h
  · have hi : i < l.length := by omega
    have hd := bulkS_drop GExpr.bulk l i hi
    have hb := bulkS_len GExpr.bulk (l.drop (i + 1))
    simp only [List.length_drop] at hb
    refine ⟨Int.natCast_nonneg _, _, map_get _ _ hi, [.ro, .ro], .int .i64 (szV x (GExpr.bulk l[i])), [none, none], ih l[i] (List.getElem_mem _) x hx0 hx1, trivial, fun h => ⟨.i64 ?_, trivial⟩, fun h => ?_⟩ <;> simp only [decide_eq_true_eq, decide_eq_false_iff_not] at h
    · have := szV_neg hx0 h
      rw [szV_lt (by omega)]
    · obtain ⟨hge, he⟩ := szV_nneg h
      refine ⟨⟨(i + 1, szV x (GExpr.bulk l[i])), by omega, by omega, by omega, by dsimp only; omega⟩, by show l.length - (i + 1) < l.length - i; omega, ?_⟩
      exact ⟨rfl, rfl, congrArg (AV.int .i64) (w64 (by omega) (by omega)), trivial⟩
  · rw [List.drop_eq_nil_of_le (by omega)] at hx
    simp only [bulkS] at hx
    show x = _
    rw [szV_ge (by omega)]; omega
theorem sz_Expr : ∀ (a : GExpr) (left : Int) (h0 : 0 ≤ left) (h1 : left ≤ 1048576) (ho : GExpr.ok a), Con 228 [.agg (GExpr.ro a), .int .i64 left] (.int .i64 (szV left (GExpr.bulk a))) [none, none] := by
  refine GExpr.ind fun a ih left h0 h1 ho => ?_
  have hu := GExpr.ok_un ho
  exact sz_Expr_of a left h0 h1 ho fun left h0 h1 => sz_ExprS_of a.l left h0 h1 hu.2.2.2.1 hu.2.2.2.2 fun x hx left h0 h1 => ih x hx left h0 h1 (hu.2.2.2.2 x hx)
theorem sz_ExprS (l : List GExpr) (left : Int) (h0 : 0 ≤ left) (h1 : left ≤ 1048576) (hl : l.length ≤ 9223372036854775807) (hs : ∀ x ∈ l, GExpr.ok x) : Con 227 [.ro 4 (GExpr.ros l), .int .i64 left] (.int .i64 (szV left (bulkS GExpr.bulk l))) [none, none] :=
  sz_ExprS_of l left h0 h1 hl hs fun x hx left h0 h1 => sz_Expr x left h0 h1 (hs x hx)
theorem to_Expr_of (a : GExpr) (hf : GExpr.fit a) (ihs : Con 230 [.ro 4 (GExpr.ros a.l)] (.ow 4 (GExpr.ows a.l)) [none]) : Con 231 [.agg (GExpr.ro a)] (.agg (GExpr.ow a)) [none] := by
  refine con Tryz.func231 ?_
  have f3 := GExpr.fit_un hf
  refine ⟨[.ro], .ow 4 (GExpr.ows a.l), [none], ihs, trivial, ?_⟩
  exact ⟨.refl _, trivial⟩
theorem to_ExprS_of (l : List GExpr) (hl : l.length ≤ 1099511627776) (hf : ∀ x ∈ l, GExpr.fit x) (ih : ∀ x ∈ l, Con 231 [.agg (GExpr.ro x)] (.agg (GExpr.ow x)) [none]) :
    Con 230 [.ro 4 (GExpr.ros l)] (.ow 4 (GExpr.ows l)) [none] := by
  rw [GExpr.ros_eq, GExpr.ows_eq]
  refine con Tryz.func230 ?_
  have hlen : (l.map GExpr.ro).length = l.length := by simp
  have hlen2 : (l.map GExpr.ow).length = l.length := by simp
  refine ⟨rfl, Int.natCast_nonneg _, ?_, ?_⟩
  · show (((l.map GExpr.ro).length : Int)) * 56 ≤ _
    omega
  refine ⟨{ i : Nat // i ≤ l.length }, fun i => ⟨[(0, .ro 4 (l.map GExpr.ro)), (3, .own 0), (4, .int .i64 i.1)], [(0, .rows 4 ((l.map GExpr.ow).take i.1 ++ List.replicate (l.length - i.1) GExpr.zero) [])]⟩, fun i => l.length - i.1, ⟨0, by omega⟩, ?_, ?_⟩
  · refine ⟨rfl, rfl, rfl, .of_eq ?_, trivial⟩
    show List.replicate (Int.toNat ((l.map GExpr.ro).length : Int)) GExpr.zero = List.replicate (l.length - 0) GExpr.zero
    rw [hlen]; rfl
  · rintro ⟨i, hi⟩
    dsimp only
    refine ⟨fun h => ?_, fun h => ?_⟩ <;> simp only [hlen, decide_eq_true_eq, decide_eq_false_iff_not] at h
    · have hi : i < l.length := by omega
      have hlt : i < ((l.map GExpr.ow).take i ++ List.replicate (l.length - i) (GExpr.zero : List AV)).length := by simp; omega
      refine ⟨Int.natCast_nonneg _, _, map_get _ _ hi, [.ro], .agg (GExpr.ow l[i]), [none], ih l[i] (List.getElem_mem _), trivial, Int.natCast_nonneg _, ?_, GExpr.zero, get_take_repl _ _ _ _ hi hlen2.symm, ⟨i + 1, by omega⟩, ?_, ?_⟩
      · simp; omega
      · dsimp only; omega
      · refine ⟨rfl, congrArg (AV.int .i64) (w64 (by omega) (by omega)), rfl, .of_eq ?_, trivial⟩
        have e := set_take_repl (l.map GExpr.ow) GExpr.zero i l.length (by simpa using hi) hlen2.symm
        rw [List.getElem_map] at e
        exact (modify_set _ _ _ _ hlt).trans e
    · refine ⟨.of_eq (congrArg (AV.ow 4) ?_), trivial⟩
      rw [show i = l.length by omega, Nat.sub_self, List.replicate_zero, List.append_nil, List.take_of_length_le (by simp)]
theorem to_Expr : ∀ (a : GExpr) (hf : GExpr.fit a), Con 231 [.agg (GExpr.ro a)] (.agg (GExpr.ow a)) [none] := by
  refine GExpr.ind fun a ih hf => ?_
  have hu := GExpr.fit_un hf
  exact to_Expr_of a hf (to_ExprS_of a.l hu.1 hu.2 fun x hx => ih x hx (hu.2 x hx))
theorem to_ExprS (l : List GExpr) (hl : l.length ≤ 1099511627776) (hf : ∀ x ∈ l, GExpr.fit x) : Con 230 [.ro 4 (GExpr.ros l)] (.ow 4 (GExpr.ows l)) [none] :=
  to_ExprS_of l hl hf fun x hx => to_Expr x (hf x hx)
theorem eq_Expr_of (a : GExpr) (hf : GExpr.fit a) (ihs : Con 236 [.ro 4 (GExpr.ros a.l), .ro 4 (GExpr.ros a.l)] (.bool true) [none, none]) : Con 237 [.agg (GExpr.ro a), .agg (GExpr.ro a)] (.bool true) [none, none] := by
  refine con Tryz.func237 ?_
  have f3 := GExpr.fit_un hf
  refine ⟨fun h => absurd rfl (of_decide_eq_true h), fun h => ?_⟩
  refine ⟨fun h => absurd rfl (of_decide_eq_true h), fun h => ?_⟩
  refine ⟨fun h => absurd rfl (of_decide_eq_true h), fun h => ?_⟩
  refine ⟨[.ro, .ro], .bool true, [none, none], ihs, trivial, ?_⟩
  refine ⟨fun h => Bool.noConfusion h, fun h => ?_⟩
  exact ⟨.refl _, trivial⟩
theorem eq_ExprS_of (l : List GExpr) (hl : l.length ≤ 1099511627776) (hf : ∀ x ∈ l, GExpr.fit x) (ih : ∀ x ∈ l, Con 237 [.agg (GExpr.ro x), .agg (GExpr.ro x)] (.bool true) [none, none]) :
    Con 236 [.ro 4 (GExpr.ros l), .ro 4 (GExpr.ros l)] (.bool true) [none, none] := by
  rw [GExpr.ros_eq]
  refine con Tryz.func236 ?_
  have hlen : (l.map GExpr.ro).length = l.length := by simp
  refine ⟨fun h => absurd rfl (of_decide_eq_true h), fun h => ?_⟩
  refine ⟨{ i : Nat // i ≤ l.length }, fun i => ⟨[(0, .ro 4 (l.map GExpr.ro)), (1, .ro 4 (l.map GExpr.ro)), (5, .int .i64 i.1)], []⟩, fun i => l.length - i.1, ⟨0, by omega⟩, ?_, ?_⟩
  · exact ⟨rfl, rfl, rfl, trivial⟩
  · rintro ⟨i, hi⟩
    dsimp only
    refine ⟨fun h => ?_, fun h => ?_⟩ <;> simp only [hlen, decide_eq_true_eq, decide_eq_false_iff_not] at h
    · have hi : i < l.length := by omega
      refine ⟨Int.natCast_nonneg _, _, map_get _ _ hi, Int.natCast_nonneg _, _, map_get _ _ hi, [.ro, .ro], .bool true, [none, none], ih l[i] (List.getElem_mem _), trivial, rfl, fun h => Bool.noConfusion h, fun h => ⟨⟨i + 1, by omega⟩, by dsimp only; omega, rfl, rfl, congrArg (AV.int .i64) (w64 (by omega) (by omega)), trivial⟩⟩
    · exact ⟨.refl _, trivial⟩
theorem eq_Expr : ∀ (a : GExpr) (hf : GExpr.fit a), Con 237 [.agg (GExpr.ro a), .agg (GExpr.ro a)] (.bool true) [none, none] := by
  refine GExpr.ind fun a ih hf => ?_
  have hu := GExpr.fit_un hf
  exact eq_Expr_of a hf (eq_ExprS_of a.l hu.1 hu.2 fun x hx => ih x hx (hu.2 x hx))
theorem eq_ExprS (l : List GExpr) (hl : l.length ≤ 1099511627776) (hf : ∀ x ∈ l, GExpr.fit x) : Con 236 [.ro 4 (GExpr.ros l), .ro 4 (GExpr.ros l)] (.bool true) [none, none] :=
  eq_ExprS_of l hl hf fun x hx => eq_Expr x (hf x hx)
theorem sz_Sect (a : GSect) (left : Int) (h0 : 0 ≤ left) (h1 : left ≤ 1048576) (ho : GSect.ok a) :
    Con 158 [.agg (GSect.ro a), .int .i64 left] (.int .i64 (szV left (GSect.bulk a))) [none, none] := by
  refine con Tryz.func158 ?_
  have hB := GSect.bulk_un a
  obtain ⟨o0, o1, o2⟩ := GSect.ok_un ho
  have e0 : IntKind.wrap .i64 (left - (a.name.size : Int)) = left - a.name.size := w64 (by omega) (by omega)
  refine ⟨fun h => ⟨.i64 ?_, trivial⟩, fun h => ?_⟩ <;> simp only [decide_eq_true_eq, decide_eq_false_iff_not] at h
  · rw [szV_lt (by omega)]
  refine ⟨[.ro, .ro], .int .i64 (szV (IntKind.wrap .i64 (left - (a.name.size : Int))) (bulkS GExpr.bulk a.words)), [none, none], sz_ExprS a.words (IntKind.wrap .i64 (left - (a.name.size : Int))) (by omega) (by omega) o2.1 o2.2, trivial, ?_⟩
  refine ⟨fun h => ⟨.i64 ?_, trivial⟩, fun h => ?_⟩ <;> simp only [decide_eq_true_eq, decide_eq_false_iff_not] at h
  · have := szV_neg (by omega) h
    rw [szV_lt (by omega)]
  have e2 := szV_nneg h
  refine ⟨.i64 ?_, trivial⟩
  rw [show szV left (GSect.bulk a) = _ from szV_ge (by omega)]; omega
theorem sz_SectS (l : List GSect) (left : Int) (h0 : 0 ≤ left) (h1 : left ≤ 1048576) (hl : l.length ≤ 9223372036854775807) (hs : ∀ x ∈ l, GSect.ok x) :
    Con 90 [.ro 3 (GSect.ros l), .int .i64 left] (.int .i64 (szV left (bulkS GSect.bulk l))) [none, none] := by
  rw [GSect.ros_eq]
  refine con Tryz.func90 ?_
  have hlen : (l.map GSect.ro).length = l.length := by simp
  have hb := bulkS_len GSect.bulk l
  refine ⟨fun h => ⟨.i64 ?_, trivial⟩, fun h => ?_⟩ <;> (simp (disch := omega) only [hlen, w64, decide_eq_true_eq, decide_eq_false_iff_not] at h)
  · rw [szV_lt (by omega)]
  refine ⟨{ p : Nat × Int // p.1 ≤ l.length ∧ 0 ≤ p.2 ∧ p.2 ≤ 1048576 ∧ p.2 + (l.length - p.1 : Nat) - bulkS GSect.bulk (l.drop p.1) = left - bulkS GSect.bulk l },
    fun p => ⟨[(0, .ro 3 (l.map GSect.ro)), (1, .int .i64 p.1.2), (5, .int .i64 p.1.1)], []⟩, fun p => l.length - p.1.1, ⟨(0, left - l.length), by omega, by omega, by omega, by simp⟩, ?_, ?_⟩
  · simp (disch := omega) only [hlen, w64]
    exact ⟨rfl, rfl, rfl, trivial⟩
  rintro ⟨⟨i, x⟩, hi, hx0, hx1, hx⟩
  dsimp only at hi hx0 hx1 hx ⊢
  refine ⟨fun h => ?_, fun h => ⟨.i64 ?_, trivial⟩⟩ <;> simp only [hlen, decide_eq_true_eq, decide_eq_false_iff_not] at h
  · have hi : i < l.length := by omega
    have hd := bulkS_drop GSect.bulk l i hi
    have hb := bulkS_len GSect.bulk (l.drop (i + 1))
    simp only [List.length_drop] at hb
    refine ⟨Int.natCast_nonneg _, _, map_get _ _ hi, [.ro, .ro], .int .i64 (szV x (GSect.bulk l[i])), [none, none], sz_Sect l[i] x hx0 hx1 (hs _ (List.getElem_mem _)), trivial, fun h => ⟨.i64 ?_, trivial⟩, fun h => ?_⟩ <;> simp only [decide_eq_true_eq, decide_eq_false_iff_not] at h
    · have := szV_neg hx0 h
      rw [szV_lt (by omega)]
    · obtain ⟨hge, he⟩ := szV_nneg h
      refine ⟨⟨(i + 1, szV x (GSect.bulk l[i])), by omega, by omega, by omega, by dsimp only; omega⟩, by show l.length - (i + 1) < l.length - i; omega, ?_⟩
      exact ⟨rfl, rfl, congrArg (AV.int .i64) (w64 (by omega) (by omega)), trivial⟩
  · rw [List.drop_eq_nil_of_le (by omega)] at hx
    simp only [bulkS] at hx
    show x = _
    rw [szV_ge (by omega)]; omega
theorem to_Sect (a : GSect) (hf : GSect.fit a) : Con 161 [.agg (GSect.ro a)] (.agg (GSect.ow a)) [none] := by
  refine con Tryz.func161 ?_
  have f2 := GSect.fit_un hf
  refine ⟨[.ro], .ow 4 (GExpr.ows a.words), [none], to_ExprS a.words f2.1 f2.2, trivial, ?_⟩
  exact ⟨.refl _, trivial⟩
theorem to_SectS (l : List GSect) (hl : l.length ≤ 1099511627776) (hf : ∀ x ∈ l, GSect.fit x) :
    Con 93 [.ro 3 (GSect.ros l)] (.ow 3 (GSect.ows l)) [none] := by
  rw [GSect.ros_eq, GSect.ows_eq]
  refine con Tryz.func93 ?_
  have hlen : (l.map GSect.ro).length = l.length := by simp
  have hlen2 : (l.map GSect.ow).length = l.length := by simp
  refine ⟨rfl, Int.natCast_nonneg _, ?_, ?_⟩
  · show (((l.map GSect.ro).length : Int)) * 48 ≤ _
    omega
  refine ⟨{ i : Nat // i ≤ l.length }, fun i => ⟨[(0, .ro 3 (l.map GSect.ro)), (3, .own 0), (4, .int .i64 i.1)], [(0, .rows 3 ((l.map GSect.ow).take i.1 ++ List.replicate (l.length - i.1) GSect.zero) [])]⟩, fun i => l.length - i.1, ⟨0, by omega⟩, ?_, ?_⟩
  · refine ⟨rfl, rfl, rfl, .of_eq ?_, trivial⟩
    show List.replicate (Int.toNat ((l.map GSect.ro).length : Int)) GSect.zero = List.replicate (l.length - 0) GSect.zero
    rw [hlen]; rfl
  · rintro ⟨i, hi⟩
    dsimp only
    refine ⟨fun h => ?_, fun h => ?_⟩ <;> simp only [hlen, decide_eq_true_eq, decide_eq_false_iff_not] at h
    · have hi : i < l.length := by omega
      have hlt : i < ((l.map GSect.ow).take i ++ List.replicate (l.length - i) (GSect.zero : List AV)).length := by simp; omega
      refine ⟨Int.natCast_nonneg _, _, map_get _ _ hi, [.ro], .agg (GSect.ow l[i]), [none], to_Sect l[i] (hf _ (List.getElem_mem _)), trivial, Int.natCast_nonneg _, ?_, GSect.zero, get_take_repl _ _ _ _ hi hlen2.symm, ⟨i + 1, by omega⟩, ?_, ?_⟩
      · simp; omega
      · dsimp only; omega
      · refine ⟨rfl, congrArg (AV.int .i64) (w64 (by omega) (by omega)), rfl, .of_eq ?_, trivial⟩
        have e := set_take_repl (l.map GSect.ow) GSect.zero i l.length (by simpa using hi) hlen2.symm
        rw [List.getElem_map] at e
        exact (modify_set _ _ _ _ hlt).trans e
    · refine ⟨.of_eq (congrArg (AV.ow 3) ?_), trivial⟩
      rw [show i = l.length by omega, Nat.sub_self, List.replicate_zero, List.append_nil, List.take_of_length_le (by simp)]
theorem eq_Sect (a : GSect) (hf : GSect.fit a) : Con 164 [.agg (GSect.ro a), .agg (GSect.ro a)] (.bool true) [none, none] := by
  refine con Tryz.func164 ?_
  have f2 := GSect.fit_un hf
  refine ⟨fun h => absurd rfl (of_decide_eq_true h), fun h => ?_⟩
  refine ⟨fun h => absurd h (by cases a.over <;> decide), fun h => ?_⟩
  refine ⟨[.ro, .ro], .bool true, [none, none], eq_ExprS a.words f2.1 f2.2, trivial, ?_⟩
  refine ⟨fun h => Bool.noConfusion h, fun h => ?_⟩
  exact ⟨.refl _, trivial⟩
theorem eq_SectS (l : List GSect) (hl : l.length ≤ 1099511627776) (hf : ∀ x ∈ l, GSect.fit x) :
    Con 96 [.ro 3 (GSect.ros l), .ro 3 (GSect.ros l)] (.bool true) [none, none] := by
  rw [GSect.ros_eq]
  refine con Tryz.func96 ?_
  have hlen : (l.map GSect.ro).length = l.length := by simp
  refine ⟨fun h => absurd rfl (of_decide_eq_true h), fun h => ?_⟩
  refine ⟨{ i : Nat // i ≤ l.length }, fun i => ⟨[(0, .ro 3 (l.map GSect.ro)), (1, .ro 3 (l.map GSect.ro)), (5, .int .i64 i.1)], []⟩, fun i => l.length - i.1, ⟨0, by omega⟩, ?_, ?_⟩
  · exact ⟨rfl, rfl, rfl, trivial⟩
  · rintro ⟨i, hi⟩
    dsimp only
    refine ⟨fun h => ?_, fun h => ?_⟩ <;> simp only [hlen, decide_eq_true_eq, decide_eq_false_iff_not] at h
    · have hi : i < l.length := by omega
      refine ⟨Int.natCast_nonneg _, _, map_get _ _ hi, Int.natCast_nonneg _, _, map_get _ _ hi, [.ro, .ro], .bool true, [none, none], eq_Sect l[i] (hf _ (List.getElem_mem _)), trivial, rfl, fun h => Bool.noConfusion h, fun h => ⟨⟨i + 1, by omega⟩, by dsimp only; omega, rfl, rfl, congrArg (AV.int .i64) (w64 (by omega) (by omega)), trivial⟩⟩
    · exact ⟨.refl _, trivial⟩
theorem sz_Glob (a : GGlob) (left : Int) (h0 : 0 ≤ left) (h1 : left ≤ 1048576) (ho : GGlob.ok a) :
    Con 159 [.agg (GGlob.ro a), .int .i64 left] (.int .i64 (szV left (GGlob.bulk a))) [none, none] := by
  refine con Tryz.func159 ?_
  have hB := GGlob.bulk_un a
  obtain ⟨o0, o1⟩ := GGlob.ok_un ho
  have e0 : IntKind.wrap .i64 (left - (a.name.size : Int)) = left - a.name.size := w64 (by omega) (by omega)
  refine ⟨fun h => ⟨.i64 ?_, trivial⟩, fun h => ?_⟩ <;> simp only [decide_eq_true_eq, decide_eq_false_iff_not] at h
  · rw [szV_lt (by omega)]
  refine ⟨[.ro, .ro], .int .i64 (szV (IntKind.wrap .i64 (left - (a.name.size : Int))) (GExpr.bulk a.e)), [none, none], sz_Expr a.e (IntKind.wrap .i64 (left - (a.name.size : Int))) (by omega) (by omega) o1, trivial, ?_⟩
  refine ⟨fun h => ⟨.i64 ?_, trivial⟩, fun h => ?_⟩ <;> simp only [decide_eq_true_eq, decide_eq_false_iff_not] at h
  · have := szV_neg (by omega) h
    rw [szV_lt (by omega)]
  have e1 := szV_nneg h
  refine ⟨.i64 ?_, trivial⟩
  rw [show szV left (GGlob.bulk a) = _ from szV_ge (by omega)]; omega
theorem sz_GlobS (l : List GGlob) (left : Int) (h0 : 0 ≤ left) (h1 : left ≤ 1048576) (hl : l.length ≤ 9223372036854775807) (hs : ∀ x ∈ l, GGlob.ok x) :
    Con 91 [.ro 5 (GGlob.ros l), .int .i64 left] (.int .i64 (szV left (bulkS GGlob.bulk l))) [none, none] := by
  rw [GGlob.ros_eq]
  refine con Tryz.func91 ?_
  have hlen : (l.map GGlob.ro).length = l.length := by simp
  have hb := bulkS_len GGlob.bulk l
  refine ⟨fun h => ⟨.i64 ?_, trivial⟩, fun h => ?_⟩ <;> (simp (disch := omega) only [hlen, w64, decide_eq_true_eq, decide_eq_false_iff_not] at h)
  · rw [szV_lt (by omega)]
  refine ⟨{ p : Nat × Int // p.1 ≤ l.length ∧ 0 ≤ p.2 ∧ p.2 ≤ 1048576 ∧ p.2 + (l.length - p.1 : Nat) - bulkS GGlob.bulk (l.drop p.1) = left - bulkS GGlob.bulk l },
    fun p => ⟨[(0, .ro 5 (l.map GGlob.ro)), (1, .int .i64 p.1.2), (5, .int .i64 p.1.1)], []⟩, fun p => l.length - p.1.1, ⟨(0, left - l.length), by omega, by omega, by omega, by simp⟩, ?_, ?_⟩
  · simp (disch := omega) only [hlen, w64]
    exact ⟨rfl, rfl, rfl, trivial⟩
  rintro ⟨⟨i, x⟩, hi, hx0, hx1, hx⟩
  dsimp only at hi hx0 hx1 hx ⊢
  refine ⟨fun h => ?_, fun h => ⟨.i64 ?_, trivial⟩⟩ <;> simp only [hlen, decide_eq_true_eq, decide_eq_false_iff_not] at h
  · have hi : i < l.length := by omega
    have hd := bulkS_drop GGlob.bulk l i hi
    have hb := bulkS_len GGlob.bulk (l.drop (i + 1))
    simp only [List.length_drop] at hb
    refine ⟨Int.natCast_nonneg _, _, map_get _ _ hi, [.ro, .ro], .int .i64 (szV x (GGlob.bulk l[i])), [none, none], sz_Glob l[i] x hx0 hx1 (hs _ (List.getElem_mem _)), trivial, fun h => ⟨.i64 ?_, trivial⟩, fun h => ?_⟩ <;> simp only [decide_eq_true_eq, decide_eq_false_iff_not] at h
    · have := szV_neg hx0 h
      rw [szV_lt (by omega)]
    · obtain ⟨hge, he⟩ := szV_nneg h
      refine ⟨⟨(i + 1, szV x (GGlob.bulk l[i])), by omega, by omega, by omega, by dsimp only; omega⟩, by show l.length - (i + 1) < l.length - i; omega, ?_⟩
      exact ⟨rfl, rfl, congrArg (AV.int .i64) (w64 (by omega) (by omega)), trivial⟩
  · rw [List.drop_eq_nil_of_le (by omega)] at hx
    simp only [bulkS] at hx
    show x = _
    rw [szV_ge (by omega)]; omega
theorem to_Glob (a : GGlob) (hf : GGlob.fit a) : Con 162 [.agg (GGlob.ro a)] (.agg (GGlob.ow a)) [none] := by
  refine con Tryz.func162 ?_
  have f1 := GGlob.fit_un hf
  refine ⟨[.ro], .agg (GExpr.ow a.e), [none], to_Expr a.e f1, trivial, ?_⟩
  exact ⟨.refl _, trivial⟩
theorem to_GlobS (l : List GGlob) (hl : l.length ≤ 1099511627776) (hf : ∀ x ∈ l, GGlob.fit x) :
    Con 94 [.ro 5 (GGlob.ros l)] (.ow 5 (GGlob.ows l)) [none] := by
  rw [GGlob.ros_eq, GGlob.ows_eq]
  refine con Tryz.func94 ?_
  have hlen : (l.map GGlob.ro).length = l.length := by simp
  have hlen2 : (l.map GGlob.ow).length = l.length := by simp
  refine ⟨rfl, Int.natCast_nonneg _, ?_, ?_⟩
  · show (((l.map GGlob.ro).length : Int)) * 72 ≤ _
    omega
  refine ⟨{ i : Nat // i ≤ l.length }, fun i => ⟨[(0, .ro 5 (l.map GGlob.ro)), (3, .own 0), (4, .int .i64 i.1)], [(0, .rows 5 ((l.map GGlob.ow).take i.1 ++ List.replicate (l.length - i.1) GGlob.zero) [])]⟩, fun i => l.length - i.1, ⟨0, by omega⟩, ?_, ?_⟩
  · refine ⟨rfl, rfl, rfl, .of_eq ?_, trivial⟩
    show List.replicate (Int.toNat ((l.map GGlob.ro).length : Int)) GGlob.zero = List.replicate (l.length - 0) GGlob.zero
    rw [hlen]; rfl
  · rintro ⟨i, hi⟩
    dsimp only
    refine ⟨fun h => ?_, fun h => ?_⟩ <;> simp only [hlen, decide_eq_true_eq, decide_eq_false_iff_not] at h
    · have hi : i < l.length := by omega
      have hlt : i < ((l.map GGlob.ow).take i ++ List.replicate (l.length - i) (GGlob.zero : List AV)).length := by simp; omega
      refine ⟨Int.natCast_nonneg _, _, map_get _ _ hi, [.ro], .agg (GGlob.ow l[i]), [none], to_Glob l[i] (hf _ (List.getElem_mem _)), trivial, Int.natCast_nonneg _, ?_, GGlob.zero, get_take_repl _ _ _ _ hi hlen2.symm, ⟨i + 1, by omega⟩, ?_, ?_⟩
      · simp; omega
      · dsimp only; omega
      · refine ⟨rfl, congrArg (AV.int .i64) (w64 (by omega) (by omega)), rfl, .of_eq ?_, trivial⟩
        have e := set_take_repl (l.map GGlob.ow) GGlob.zero i l.length (by simpa using hi) hlen2.symm
        rw [List.getElem_map] at e
        exact (modify_set _ _ _ _ hlt).trans e
    · refine ⟨.of_eq (congrArg (AV.ow 5) ?_), trivial⟩
      rw [show i = l.length by omega, Nat.sub_self, List.replicate_zero, List.append_nil, List.take_of_length_le (by simp)]
theorem eq_Glob (a : GGlob) (hf : GGlob.fit a) : Con 165 [.agg (GGlob.ro a), .agg (GGlob.ro a)] (.bool true) [none, none] := by
  refine con Tryz.func165 ?_
  have f1 := GGlob.fit_un hf
  refine ⟨fun h => absurd rfl (of_decide_eq_true h), fun h => ?_⟩
  refine ⟨[.ro, .ro], .bool true, [none, none], eq_Expr a.e f1, trivial, ?_⟩
  refine ⟨fun h => Bool.noConfusion h, fun h => ?_⟩
  exact ⟨.refl _, trivial⟩
theorem eq_GlobS (l : List GGlob) (hl : l.length ≤ 1099511627776) (hf : ∀ x ∈ l, GGlob.fit x) :
    Con 97 [.ro 5 (GGlob.ros l), .ro 5 (GGlob.ros l)] (.bool true) [none, none] := by
  rw [GGlob.ros_eq]
  refine con Tryz.func97 ?_
  have hlen : (l.map GGlob.ro).length = l.length := by simp
  refine ⟨fun h => absurd rfl (of_decide_eq_true h), fun h => ?_⟩
  refine ⟨{ i : Nat // i ≤ l.length }, fun i => ⟨[(0, .ro 5 (l.map GGlob.ro)), (1, .ro 5 (l.map GGlob.ro)), (5, .int .i64 i.1)], []⟩, fun i => l.length - i.1, ⟨0, by omega⟩, ?_, ?_⟩
  · exact ⟨rfl, rfl, rfl, trivial⟩
  · rintro ⟨i, hi⟩
    dsimp only
    refine ⟨fun h => ?_, fun h => ?_⟩ <;> simp only [hlen, decide_eq_true_eq, decide_eq_false_iff_not] at h
    · have hi : i < l.length := by omega
      refine ⟨Int.natCast_nonneg _, _, map_get _ _ hi, Int.natCast_nonneg _, _, map_get _ _ hi, [.ro, .ro], .bool true, [none, none], eq_Glob l[i] (hf _ (List.getElem_mem _)), trivial, rfl, fun h => Bool.noConfusion h, fun h => ⟨⟨i + 1, by omega⟩, by dsimp only; omega, rfl, rfl, congrArg (AV.int .i64) (w64 (by omega) (by omega)), trivial⟩⟩
    · exact ⟨.refl _, trivial⟩
theorem sz_Obj (a : GObj) (left : Int) (h0 : 0 ≤ left) (h1 : left ≤ 1048576) (ho : GObj.ok a) :
    Con 34 [.agg (GObj.ro a), .int .i64 left] (.int .i64 (szV left (GObj.bulk a))) [none, none] := by
  refine con Tryz.func34 ?_
  have hB := GObj.bulk_un a
  obtain ⟨o0, o1⟩ := GObj.ok_un ho
  refine ⟨[.ro, .ro], .int .i64 (szV left (bulkS GSect.bulk a.sects)), [none, none], sz_SectS a.sects left (by omega) (by omega) o0.1 o0.2, trivial, ?_⟩
  refine ⟨fun h => ⟨.i64 ?_, trivial⟩, fun h => ?_⟩ <;> simp only [decide_eq_true_eq, decide_eq_false_iff_not] at h
  · have := szV_neg (by omega) h
    rw [szV_lt (by omega)]
  have e0 := szV_nneg h
  refine ⟨[.ro, .ro], .int .i64 (szV (szV left (bulkS GSect.bulk a.sects)) (bulkS GGlob.bulk a.globs)), [none, none], sz_GlobS a.globs (szV left (bulkS GSect.bulk a.sects)) (by omega) (by omega) o1.1 o1.2, trivial, ?_⟩
  refine ⟨fun h => ⟨.i64 ?_, trivial⟩, fun h => ?_⟩ <;> simp only [decide_eq_true_eq, decide_eq_false_iff_not] at h
  · have := szV_neg (by omega) h
    rw [szV_lt (by omega)]
  have e1 := szV_nneg h
  refine ⟨.i64 ?_, trivial⟩
  rw [show szV left (GObj.bulk a) = _ from szV_ge (by omega)]; omega
theorem to_Obj (a : GObj) (hf : GObj.fit a) : Con 36 [.agg (GObj.ro a)] (.agg (GObj.ow a)) [none] := by
  refine con Tryz.func36 ?_
  obtain ⟨f0, f1⟩ := GObj.fit_un hf
  refine ⟨[.ro], .ow 3 (GSect.ows a.sects), [none], to_SectS a.sects f0.1 f0.2, trivial, ?_⟩
  refine ⟨[.ro], .ow 5 (GGlob.ows a.globs), [none], to_GlobS a.globs f1.1 f1.2, trivial, ?_⟩
  exact ⟨.refl _, trivial⟩
theorem eq_Obj (a : GObj) (hf : GObj.fit a) : Con 38 [.agg (GObj.ro a), .agg (GObj.ro a)] (.bool true) [none, none] := by
  refine con Tryz.func38 ?_
  obtain ⟨f0, f1⟩ := GObj.fit_un hf
  refine ⟨[.ro, .ro], .bool true, [none, none], eq_SectS a.sects f0.1 f0.2, trivial, ?_⟩
  refine ⟨fun h => Bool.noConfusion h, fun h => ?_⟩
  refine ⟨[.ro, .ro], .bool true, [none, none], eq_GlobS a.globs f1.1 f1.2, trivial, ?_⟩
  refine ⟨fun h => Bool.noConfusion h, fun h => ?_⟩
  exact ⟨.refl _, trivial⟩
theorem sz_LibMod (a : GLibMod) (left : Int) (h0 : 0 ≤ left) (h1 : left ≤ 1048576) (ho : GLibMod.ok a) :
    Con 143 [.agg (GLibMod.ro a), .int .i64 left] (.int .i64 (szV left (GLibMod.bulk a))) [none, none] := by
  refine con Tryz.func143 ?_
  have hB := GLibMod.bulk_un a
  obtain ⟨o0, o1⟩ := GLibMod.ok_un ho
  have e0 : IntKind.wrap .i64 (left - (a.name.size : Int)) = left - a.name.size := w64 (by omega) (by omega)
  refine ⟨fun h => ⟨.i64 ?_, trivial⟩, fun h => ?_⟩ <;> simp only [decide_eq_true_eq, decide_eq_false_iff_not] at h
  · rw [szV_lt (by omega)]
  refine ⟨[.ro, .ro], .int .i64 (szV (IntKind.wrap .i64 (left - (a.name.size : Int))) (bulkS GByte.bulk a.b)), [none, none], sz_ByteS a.b (IntKind.wrap .i64 (left - (a.name.size : Int))) (by omega) (by omega) o1.1 o1.2, trivial, ?_⟩
  refine ⟨fun h => ⟨.i64 ?_, trivial⟩, fun h => ?_⟩ <;> simp only [decide_eq_true_eq, decide_eq_false_iff_not] at h
  · have := szV_neg (by omega) h
    rw [szV_lt (by omega)]
  have e1 := szV_nneg h
  refine ⟨.i64 ?_, trivial⟩
  rw [show szV left (GLibMod.bulk a) = _ from szV_ge (by omega)]; omega
theorem sz_LibModS (l : List GLibMod) (left : Int) (h0 : 0 ≤ left) (h1 : left ≤ 1048576) (hl : l.length ≤ 9223372036854775807) (hs : ∀ x ∈ l, GLibMod.ok x) :
    Con 66 [.ro 2 (GLibMod.ros l), .int .i64 left] (.int .i64 (szV left (bulkS GLibMod.bulk l))) [none, none] := by
  rw [GLibMod.ros_eq]
  refine con Tryz.func66 ?_
  have hlen : (l.map GLibMod.ro).length = l.length := by simp
  have hb := bulkS_len GLibMod.bulk l
  refine ⟨fun h => ⟨.i64 ?_, trivial⟩, fun h => ?_⟩ <;> (simp (disch := omega) only [hlen, w64, decide_eq_true_eq, decide_eq_false_iff_not] at h)
  · rw [szV_lt (by omega)]
  refine ⟨{ p : Nat × Int // p.1 ≤ l.length ∧ 0 ≤ p.2 ∧ p.2 ≤ 1048576 ∧ p.2 + (l.length - p.1 : Nat) - bulkS GLibMod.bulk (l.drop p.1) = left - bulkS GLibMod.bulk l },
    fun p => ⟨[(0, .ro 2 (l.map GLibMod.ro)), (1, .int .i64 p.1.2), (5, .int .i64 p.1.1)], []⟩, fun p => l.length - p.1.1, ⟨(0, left - l.length), by omega, by omega, by omega, by simp⟩, ?_, ?_⟩
  · simp (disch := omega) only [hlen, w64]
    exact ⟨rfl, rfl, rfl, trivial⟩
  rintro ⟨⟨i, x⟩, hi, hx0, hx1, hx⟩
  dsimp only at hi hx0 hx1 hx ⊢
  refine ⟨fun h => ?_, fun h => ⟨.i64 ?_, trivial⟩⟩ <;> simp only [hlen, decide_eq_true_eq, decide_eq_false_iff_not] at h
  · have hi : i < l.length := by omega
    have hd := bulkS_drop GLibMod.bulk l i hi
    have hb := bulkS_len GLibMod.bulk (l.drop (i + 1))
    simp only [List.length_drop] at hb
    refine ⟨Int.natCast_nonneg _, _, map_get _ _ hi, [.ro, .ro], .int .i64 (szV x (GLibMod.bulk l[i])), [none, none], sz_LibMod l[i] x hx0 hx1 (hs _ (List.getElem_mem _)), trivial, fun h => ⟨.i64 ?_, trivial⟩, fun h => ?_⟩ <;> simp only [decide_eq_true_eq, decide_eq_false_iff_not] at h
    · have := szV_neg hx0 h
      rw [szV_lt (by omega)]
    · obtain ⟨hge, he⟩ := szV_nneg h
      refine ⟨⟨(i + 1, szV x (GLibMod.bulk l[i])), by omega, by omega, by omega, by dsimp only; omega⟩, by show l.length - (i + 1) < l.length - i; omega, ?_⟩
      exact ⟨rfl, rfl, congrArg (AV.int .i64) (w64 (by omega) (by omega)), trivial⟩
  · rw [List.drop_eq_nil_of_le (by omega)] at hx
    simp only [bulkS] at hx
    show x = _
    rw [szV_ge (by omega)]; omega
theorem to_LibMod (a : GLibMod) (hf : GLibMod.fit a) : Con 145 [.agg (GLibMod.ro a)] (.agg (GLibMod.ow a)) [none] := by
  refine con Tryz.func145 ?_
  have f1 := GLibMod.fit_un hf
  refine ⟨[.ro], .ow 1 (GByte.ows a.b), [none], to_ByteS a.b f1.1 f1.2, trivial, ?_⟩
  exact ⟨.refl _, trivial⟩
theorem to_LibModS (l : List GLibMod) (hl : l.length ≤ 1099511627776) (hf : ∀ x ∈ l, GLibMod.fit x) :
    Con 69 [.ro 2 (GLibMod.ros l)] (.ow 2 (GLibMod.ows l)) [none] := by
  rw [GLibMod.ros_eq, GLibMod.ows_eq]
  refine con Tryz.func69 ?_
  have hlen : (l.map GLibMod.ro).length = l.length := by simp
  have hlen2 : (l.map GLibMod.ow).length = l.length := by simp
  refine ⟨rfl, Int.natCast_nonneg _, ?_, ?_⟩
  · show (((l.map GLibMod.ro).length : Int)) * 40 ≤ _
    omega
  refine ⟨{ i : Nat // i ≤ l.length }, fun i => ⟨[(0, .ro 2 (l.map GLibMod.ro)), (3, .own 0), (4, .int .i64 i.1)], [(0, .rows 2 ((l.map GLibMod.ow).take i.1 ++ List.replicate (l.length - i.1) GLibMod.zero) [])]⟩, fun i => l.length - i.1, ⟨0, by omega⟩, ?_, ?_⟩
  · refine ⟨rfl, rfl, rfl, .of_eq ?_, trivial⟩
    show List.replicate (Int.toNat ((l.map GLibMod.ro).length : Int)) GLibMod.zero = List.replicate (l.length - 0) GLibMod.zero
    rw [hlen]; rfl
  · rintro ⟨i, hi⟩
    dsimp only
    refine ⟨fun h => ?_, fun h => ?_⟩ <;> simp only [hlen, decide_eq_true_eq, decide_eq_false_iff_not] at h
    · have hi : i < l.length := by omega
      have hlt : i < ((l.map GLibMod.ow).take i ++ List.replicate (l.length - i) (GLibMod.zero : List AV)).length := by simp; omega
      refine ⟨Int.natCast_nonneg _, _, map_get _ _ hi, [.ro], .agg (GLibMod.ow l[i]), [none], to_LibMod l[i] (hf _ (List.getElem_mem _)), trivial, Int.natCast_nonneg _, ?_, GLibMod.zero, get_take_repl _ _ _ _ hi hlen2.symm, ⟨i + 1, by omega⟩, ?_, ?_⟩
      · simp; omega
      · dsimp only; omega
      · refine ⟨rfl, congrArg (AV.int .i64) (w64 (by omega) (by omega)), rfl, .of_eq ?_, trivial⟩
        have e := set_take_repl (l.map GLibMod.ow) GLibMod.zero i l.length (by simpa using hi) hlen2.symm
        rw [List.getElem_map] at e
        exact (modify_set _ _ _ _ hlt).trans e
    · refine ⟨.of_eq (congrArg (AV.ow 2) ?_), trivial⟩
      rw [show i = l.length by omega, Nat.sub_self, List.replicate_zero, List.append_nil, List.take_of_length_le (by simp)]
theorem eq_LibMod (a : GLibMod) (hf : GLibMod.fit a) : Con 148 [.agg (GLibMod.ro a), .agg (GLibMod.ro a)] (.bool true) [none, none] := by
  refine con Tryz.func148 ?_
  have f1 := GLibMod.fit_un hf
  refine ⟨fun h => absurd rfl (of_decide_eq_true h), fun h => ?_⟩
  refine ⟨[.ro, .ro], .bool true, [none, none], eq_ByteS a.b f1.1 f1.2, trivial, ?_⟩
  refine ⟨fun h => Bool.noConfusion h, fun h => ?_⟩
  exact ⟨.refl _, trivial⟩
theorem eq_LibModS (l : List GLibMod) (hl : l.length ≤ 1099511627776) (hf : ∀ x ∈ l, GLibMod.fit x) :
    Con 73 [.ro 2 (GLibMod.ros l), .ro 2 (GLibMod.ros l)] (.bool true) [none, none] := by
  rw [GLibMod.ros_eq]
  refine con Tryz.func73 ?_
  have hlen : (l.map GLibMod.ro).length = l.length := by simp
  refine ⟨fun h => absurd rfl (of_decide_eq_true h), fun h => ?_⟩
  refine ⟨{ i : Nat // i ≤ l.length }, fun i => ⟨[(0, .ro 2 (l.map GLibMod.ro)), (1, .ro 2 (l.map GLibMod.ro)), (5, .int .i64 i.1)], []⟩, fun i => l.length - i.1, ⟨0, by omega⟩, ?_, ?_⟩
  · exact ⟨rfl, rfl, rfl, trivial⟩
  · rintro ⟨i, hi⟩
    dsimp only
    refine ⟨fun h => ?_, fun h => ?_⟩ <;> simp only [hlen, decide_eq_true_eq, decide_eq_false_iff_not] at h
    · have hi : i < l.length := by omega
      refine ⟨Int.natCast_nonneg _, _, map_get _ _ hi, Int.natCast_nonneg _, _, map_get _ _ hi, [.ro, .ro], .bool true, [none, none], eq_LibMod l[i] (hf _ (List.getElem_mem _)), trivial, rfl, fun h => Bool.noConfusion h, fun h => ⟨⟨i + 1, by omega⟩, by dsimp only; omega, rfl, rfl, congrArg (AV.int .i64) (w64 (by omega) (by omega)), trivial⟩⟩
    · exact ⟨.refl _, trivial⟩
theorem sz_Lib (a : GLib) (left : Int) (h0 : 0 ≤ left) (h1 : left ≤ 1048576) (ho : GLib.ok a) :
    Con 11 [.agg (GLib.ro a), .int .i64 left] (.int .i64 (szV left (GLib.bulk a))) [none, none] := by
  refine con Tryz.func11 ?_
  have hB := GLib.bulk_un a
  have o0 := GLib.ok_un ho
  refine ⟨[.ro, .ro], .int .i64 (szV left (bulkS GLibMod.bulk a.mods)), [none, none], sz_LibModS a.mods left (by omega) (by omega) o0.1 o0.2, trivial, ?_⟩
  refine ⟨fun h => ⟨.i64 ?_, trivial⟩, fun h => ?_⟩ <;> simp only [decide_eq_true_eq, decide_eq_false_iff_not] at h
  · have := szV_neg (by omega) h
    rw [szV_lt (by omega)]
  have e0 := szV_nneg h
  refine ⟨.i64 ?_, trivial⟩
  rw [show szV left (GLib.bulk a) = _ from szV_ge (by omega)]; omega
theorem to_Lib (a : GLib) (hf : GLib.fit a) : Con 13 [.agg (GLib.ro a)] (.agg (GLib.ow a)) [none] := by
  refine con Tryz.func13 ?_
  have f0 := GLib.fit_un hf
  refine ⟨[.ro], .ow 2 (GLibMod.ows a.mods), [none], to_LibModS a.mods f0.1 f0.2, trivial, ?_⟩
  exact ⟨.refl _, trivial⟩
theorem eq_Lib (a : GLib) (hf : GLib.fit a) : Con 16 [.agg (GLib.ro a), .agg (GLib.ro a)] (.bool true) [none, none] := by
  refine con Tryz.func16 ?_
  have f0 := GLib.fit_un hf
  refine ⟨[.ro, .ro], .bool true, [none, none], eq_LibModS a.mods f0.1 f0.2, trivial, ?_⟩
  refine ⟨fun h => Bool.noConfusion h, fun h => ?_⟩
  exact ⟨.refl _, trivial⟩
end Go.Proofs.VI
