/- Contracts of functions, and what they rest on: l08new. -/
import Derived.Test.YtkbdnmmnnkoenaaE1
set_option linter.unusedVariables false
set_option linter.unusedSimpArgs false
set_option maxRecDepth 10000
set_option maxHeartbeats 4000000
namespace Go.Proofs.VI
open Go
def newMem (im : List Int) (p : Nat) : List Int := (List.replicate 256 (0 : Int)).take p ++ (im ++ (List.replicate 256 (0 : Int)).drop (p + im.length))
theorem newMem_len (im : List Int) (p : Nat) (h : p + im.length ≤ 256) : (newMem im p).length = 256 := by
  simp [newMem]; omega
theorem newMem_words (im : List Int) (p : Nat) (h : wordsP im) : wordsP (newMem im p) := fun x hx => by
  have z : ∀ x ∈ List.replicate 256 (0 : Int), 0 ≤ x ∧ x ≤ 65535 := fun x hx => by rw [List.eq_of_mem_replicate hx]; decide
  rcases List.mem_append.1 hx with hx | hx
  · exact z x (List.mem_of_mem_take hx)
  rcases List.mem_append.1 hx with hx | hx
  · exact h x hx
  · exact z x (List.mem_of_mem_drop hx)
def newM (im : List Int) (p : Nat) (start : Int) (inp : List Int) : GMach := ⟨newMem im p, [0, 0, 0, 0, 0, 0, 512, start], false, false, false, false, inp, [], 0⟩
theorem newM_right (im : List Int) (p : Nat) (start : Int) (inp : List Int) (h : p + im.length ≤ 256) (hw : wordsP im) (hs : 0 ≤ start ∧ start ≤ 65535) (hi : wordsP inp) (hil : inp.length ≤ 50) : RightM (newM im p start inp) :=
  ⟨newMem_len im p h, rfl, hil, by simp [newM], newMem_words im p hw, fun x hx => by simp [newM] at hx; omega, hi, fun x hx => (by cases hx), (⟨by decide, by decide⟩ : (0 : Int) ≤ 0 ∧ (0 : Int) ≤ 2)⟩
theorem rows_rep (n : Nat) : List.replicate n [AV.int .i64 0] = GInt.ows (List.replicate n (0 : Int)) := by
  rw [GInt.ows_eq, List.map_replicate]; rfl
theorem newMem_rows (im : List Int) (p : Nat) (off : Int) (h : off = p) : (List.replicate 256 [AV.int .i64 0]).take off.toNat ++ (GInt.ros im ++ (List.replicate 256 [AV.int .i64 0]).drop (off.toNat + (GInt.ros im).length)) = GInt.ows (newMem im p) := by
  subst h
  show _ = (newMem im p).map GInt.ro
  rw [rows_rep, newMem, List.map_append, List.map_append, List.map_take, List.map_drop, Int.toNat_natCast, GInt.ros_eq, List.length_map]
theorem impl_MachNew (im : List Int) (p : Nat) (start : Int) (inp : List Int) (hp : p + im.length ≤ 256) (hp2 : p < 256) (hw : wordsP im) (hs : 0 ≤ start ∧ start ≤ 65535) (hi : wordsP inp) (hil : inp.length ≤ 50) :
    Con 13 [.ro 1 (GInt.ros im), .int .i64 ((2 * p : Nat) : Int), .int .i64 start, .ro 1 (GInt.ros inp)] (.agg (GMach.ow (newM im p start inp))) [none, none, none, none] := by
  have ha : adr ((2 * p : Nat) : Int) = true := by rw [adr, inI_t (by omega)]; simp
  have cA := impl_isAddr ((2 * p : Nat) : Int)
  rw [ha] at cA
  have cW := impl_wordsOk im (by omega)
  rw [show wordsB im = true from dec_true hw] at cW
  have cI := impl_wordsOk inp (by omega)
  rw [show wordsB inp = true from dec_true hi] at cI
  have cS := impl_isWord start
  rw [inI_t hs] at cS
  have cC := impl_copyInts inp (by omega)
  have l1 : ((GInt.ros im).length : Int) = im.length := by simp
  have l2 : ((GInt.ros inp).length : Int) = inp.length := by simp
  have e : IntKind.wrap .i64 (((2 * p : Nat) : Int).tdiv 2) = (p : Int) := by rw [tdiv2 (by omega), w64 (by omega) (by omega)]; omega
  have e2 : IntKind.wrap .i64 (256 - IntKind.wrap .i64 (((2 * p : Nat) : Int).tdiv 2)) = 256 - (p : Int) := by rw [e]; exact w64 (by omega) (by omega)
  have hint : ∀ r ∈ GInt.ros im, ∃ q z, r = [AV.int q z] := fun r hr => by
    rw [GInt.ros_eq] at hr
    obtain ⟨x, _, rfl⟩ := List.mem_map.1 hr
    exact ⟨_, _, rfl⟩
  refine con Try.func13 ?_
  refine ⟨[.ro], .tt, [none], .nbr rfl cA, trivial, by decide, fun h => ?_, fun h => ?_⟩ <;> simp only [decide_eq_true_eq, decide_eq_false_iff_not, l1, e2] at h
  rotate_left
  · omega
  refine ⟨[.ro], .tt, [none], .nbr rfl cW, trivial, [.ro], .tt, [none], .nbr rfl cI, trivial, [.ro], .tt, [none], .nbr rfl cS, trivial, fun h => ?_, fun h => ?_⟩ <;> simp only [decide_eq_true_eq, decide_eq_false_iff_not, l2] at h
  · omega
  have l256 : ((List.replicate (Int.toNat 256) [AV.int .i64 0]).length : Int) = 256 := rfl
  refine ⟨rfl, by decide, by decide, rfl, by decide, by decide, [.ro], .ow 1 (GInt.ows inp), [none], cC, trivial, by kernel_rfl, ?_⟩
  refine ⟨by decide, by rw [e]; omega, by rw [e]; exact Int.le_of_lt (by rw [l256]; omega), hint, (by rw [e]; simp; omega), ?_⟩
  refine ⟨by decide, by decide, _, rfl, by decide, by decide, _, rfl, by kernel_rfl, ?_⟩
  exact ⟨.agg (.cons (.of_eq (congrArg (AV.ow 1) (newMem_rows im p _ e))) (.cons (.of_eq rfl) (.cons (.refl _) (.cons (.refl _) (.cons (.refl _) (.cons (.refl _) (.cons (.refl _) (.cons (.nil 1) (.refl _))))))))), trivial⟩
theorem newMem_nil (p : Nat) : newMem [] p = List.replicate 256 0 := by
  show (List.replicate 256 (0 : Int)).take p ++ ([] ++ (List.replicate 256 (0 : Int)).drop (p + 0)) = _
  rw [List.nil_append, Nat.add_zero, List.take_append_drop]
theorem newMem_set (im : List Int) (p i : Nat) (h : p + im.length ≤ 256) (hi : i < im.length) : (newMem (im.take i) p)[p + i]? = some 0 ∧ (newMem (im.take i) p).set (p + i) im[i] = newMem (im.take (i + 1)) p := by
  have hl : (im.take i).length = i := by simp; omega
  have hl2 : (im.take (i + 1)).length = i + 1 := by simp; omega
  have hz : ((List.replicate 256 (0 : Int)).take p).length = p := by rw [List.length_take, List.length_replicate]; omega
  have hd : (List.replicate 256 (0 : Int)).drop (p + i) = 0 :: (List.replicate 256 (0 : Int)).drop (p + (i + 1)) := by
    rw [List.drop_eq_getElem_cons (by rw [List.length_replicate]; omega), List.getElem_replicate]; rfl
  rw [newMem, newMem, hl, hl2, hd]
  constructor
  · rw [List.getElem?_append_right (by rw [hz]; omega), hz, show p + i - p = i by omega, List.getElem?_append_right (by rw [hl]; exact Nat.le_refl _), hl, Nat.sub_self]; rfl
  · rw [List.set_append_right _ _ (by rw [hz]; omega), hz, show p + i - p = i by omega, List.set_append_right _ _ (by rw [hl]; exact Nat.le_refl _), hl, Nat.sub_self, List.set_cons_zero, List.take_add_one, List.getElem?_eq_getElem hi, Option.toList_some, List.append_assoc]; rfl
theorem spec_MachNew (im : List Int) (p : Nat) (start : Int) (inp : List Int) (hp : p + im.length ≤ 256) (hp2 : p < 256) (hw : wordsP im) (hs : 0 ≤ start ∧ start ≤ 65535) (hi : wordsP inp) (hil : inp.length ≤ 50) :
    Con 80 [.ro 1 (GInt.ros im), .int .i64 ((2 * p : Nat) : Int), .int .i64 start, .ro 1 (GInt.ros inp)] (.agg (GMach.ow (newM im p start inp))) [none, none, none, none] := by
  have cA := spec_l1In ((2 * p : Nat) : Int) 0 510
  rw [inI_t (by omega)] at cA
  have cW := spec_l5Words im (by omega)
  rw [show wordsB im = true from dec_true hw] at cW
  have cI := spec_l5Words inp (by omega)
  rw [show wordsB inp = true from dec_true hi] at cI
  have cS := spec_l1In start 0 65535
  rw [inI_t hs] at cS
  have l1 : ((GInt.ros im).length : Int) = im.length := by simp
  have l2 : ((GInt.ros inp).length : Int) = inp.length := by simp
  have e : IntKind.wrap .i64 (((2 * p : Nat) : Int).tdiv 2) = (p : Int) := by rw [tdiv2 (by omega), w64 (by omega) (by omega)]; omega
  have e0 : (((2 * p : Nat) : Int).tmod 2) = 0 := by rw [tmod2 (by omega)]; omega
  have e2 : IntKind.wrap .i64 (256 - IntKind.wrap .i64 (((2 * p : Nat) : Int).tdiv 2)) = 256 - (p : Int) := by rw [e]; exact w64 (by omega) (by omega)
  have l3 : (0 + (GInt.ros inp).length) * 8 ≤ 140737488355328 := by simp; omega
  refine conI [] (fun i => bif Nat.beq i 7 then some (9, 32) else none) (fun _ => false) Try.func80 (fun _ h => by cases h) ?_
  refine ⟨[.ro, .ro, .ro], .tt, [none, none, none], .nbr rfl cA, trivial, by decide, fun h0 => ?_, fun h => absurd h (by rw [e0]; decide)⟩
  refine ⟨by decide, fun h => ?_, fun h => ?_⟩ <;> simp only [decide_eq_true_eq, decide_eq_false_iff_not, l1, e2] at h
  rotate_left
  · omega
  refine ⟨[.ro], .tt, [none], .nbr rfl cW, trivial, [.ro, .ro, .ro], .tt, [none, none, none], .nbr rfl cS, trivial, fun h => ?_, fun h => ?_⟩ <;> simp only [decide_eq_true_eq, decide_eq_false_iff_not, l2] at h
  rotate_left
  · omega
  refine ⟨[.ro], .tt, [none], .nbr rfl cI, trivial, ?_⟩
  refine ⟨rfl, by decide, by decide, rfl, by decide, by decide, trivial, l3, int_plain inp, by kernel_rfl, ?_⟩
  refine ⟨{ i : Nat // i ≤ im.length }, fun i => ⟨[(0, .ro 1 (GInt.ros im)), (1, .int .i64 ((2 * p : Nat) : Int)), (2, .int .i64 start), (8, .ptr 0 0 0), (9, .ptr 1 0 0), (10, .int .i64 i.1)], [(0, .box GMach.zero []), (1, .box [.ow 1 (GInt.ows (newMem (im.take i.1) p)), .ow 1 (List.replicate 8 [AV.int .i64 0]), .ff, .ff, .ff, .ff, .ow 1 (GInt.ows inp), .nils, .int .i64 0] [])]⟩, fun i => im.length - i.1, ⟨0, Nat.zero_le _⟩, ?_, ?_⟩
  · refine ⟨rfl, rfl, rfl, rfl, rfl, rfl, rfl, rfl, .refl _, .cons (.cons (.ow (SimRows.of_eq ?_)) (.refl _)) (.refl _), trivial⟩
    show List.replicate 256 [AV.int .i64 0] = GInt.ows (newMem [] p)
    rw [newMem_nil, rows_rep]
  · rintro ⟨i, hi⟩
    dsimp only
    refine ⟨fun h => ?_, fun h => ?_⟩ <;> simp only [decide_eq_true_eq, decide_eq_false_iff_not, l1] at h
    · have hi : i < im.length := by omega
      have e3 : IntKind.wrap .i64 (IntKind.wrap .i64 (((2 * p : Nat) : Int).tdiv 2) + (i : Int)) = ((p + i : Nat) : Int) := by rw [e, w64 (by omega) (by omega)]; omega
      obtain ⟨g1, g2⟩ := newMem_set im p i hp hi
      have hlen := newMem_len (im.take i) p (by simp; omega)
      have hr1 : (GInt.ros im)[((i : Nat) : Int).toNat]? = some [AV.int .i64 im[i]] := by rw [Int.toNat_natCast, map_get _ _ hi]; rfl
      have hr2 : (GInt.ows (newMem (im.take i) p))[(IntKind.wrap .i64 (IntKind.wrap .i64 (((2 * p : Nat) : Int).tdiv 2) + (i : Int))).toNat]? = some [AV.int .i64 0] := by
        rw [e3, Int.toNat_natCast, GInt.ows_eq, List.getElem?_map, g1]; rfl
      have hs : (GInt.ows (newMem (im.take i) p)).set (IntKind.wrap .i64 (IntKind.wrap .i64 (((2 * p : Nat) : Int).tdiv 2) + (i : Int))).toNat [AV.int .i64 im[i]] = GInt.ows (newMem (im.take (i + 1)) p) := by
        rw [e3, Int.toNat_natCast, ← g2, GInt.ows_eq, GInt.ows_eq, List.map_set]; rfl
      refine ⟨by decide, Int.natCast_nonneg _, _, hr1, by rw [e3]; exact Int.natCast_nonneg _, by rw [e3]; simp [hlen]; omega, _, hr2, by kernel_rfl, ?_⟩
      exact ⟨⟨i + 1, hi⟩, Nat.sub_succ_lt_self _ _ hi, rfl, rfl, rfl, rfl, rfl, rfl, rfl, congrArg (AV.int .i64) (w64 (by omega) (by omega)), .refl _, .cons (.cons (.ow (SimRows.of_eq hs)) (.refl _)) (.refl _), trivial⟩
    · have e9 : im.take i = im := List.take_of_length_le (by omega)
      refine ⟨by decide, by decide, _, rfl, by decide, by decide, _, rfl, ?_⟩
      exact ⟨.agg (.cons (.of_eq (by rw [e9]; rfl)) (.cons (.of_eq rfl) (.cons (.refl _) (.cons (.refl _) (.cons (.refl _) (.cons (.refl _) (.cons (.refl _) (.cons (.nil 1) (.refl _))))))))), trivial⟩
end Go.Proofs.VI
