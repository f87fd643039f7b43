/- Contracts of functions, and what they rest on: l07flow. -/
import Derived.Test.YtkbdnmmnnkoenaaM9
set_option linter.unusedVariables false
set_option linter.unusedSimpArgs false
set_option maxRecDepth 10000
set_option maxHeartbeats 4000000
namespace Go.Proofs.VI
open Go
def goesV (m : GMach) (op : Int) : Bool := if op = 18 then !m.z else if op = 19 then m.z else if op = 20 then m.n == m.v else if op = 21 then m.n != m.v else true
def jmpR (m : GMach) (n : Int) : GMach := setR m 7 (wr16 (readR m 7 + 2 * n))
def retV (m : GMach) (n : Int) : Option GMach := match readV (setR m 7 (readR m n)) (readR (setR m 7 (readR m n)) 6) with
  | none => none
  | some x => some (setR (setR (setR m 7 (readR m n)) 6 (wr16 (readR (setR m 7 (readR m n)) 6 + 2))) n x)
def pushM (m : GMach) : GMach := setR m 6 (wr16 (readR m 6 - 2))
def goV (m : GMach) (p : GPlace) (n : Int) : Option GMach := if p.reg ≠ -1 then none else
  if 0 ≤ n then (match stoV (pushM m) ⟨-1, readR (pushM m) 6⟩ (readR (pushM m) n) with
    | none => none
    | some m2 => some (setR (setR m2 n (readR m2 7)) 7 p.pos))
  else some (setR m 7 p.pos)
def preAll (_ : Nat) : Option (Nat × TypeId) := some (0, 32)
theorem setR_at (m : GMach) (hm : RightM m) (i v j : Int) (hv : 0 ≤ v ∧ v ≤ 65535) (h0 : 0 ≤ j) (h1 : j < 8) : ((GInt.ros m.r).set i.toNat [.int .i64 v])[j.toNat]? = some [.int .i64 (readR (setR m i v) j)] := by
  rw [reg_set]
  exact reg_row (hm.setR i hv) h0 h1
theorem setR_len (m : GMach) (hm : RightM m) (i v : Int) : (((GInt.ros m.r).set i.toNat [.int .i64 v]).length : Int) = 8 := by
  rw [List.length_set, regs_len hm]
theorem impl_goes (m : GMach) (op : Int) : Con 74 [.pb (GMach.ow m), .int .i64 op] (.bool (goesV m op)) [some (.pb (GMach.ow m)), none] := by
  refine con Try.func74 ?_
  refine ⟨fun h => ?_, fun h => ⟨fun h2 => ?_, fun h2 => ⟨fun h3 => ?_, fun h3 => ⟨fun h4 => ?_, fun h4 => ?_⟩⟩⟩⟩ <;> simp only [decide_eq_true_eq, decide_eq_false_iff_not] at *
  · rw [goesV, if_pos h]; exact ⟨.refl _, .refl _, trivial⟩
  · rw [goesV, if_neg h, if_pos h2]; exact ⟨.refl _, .refl _, trivial⟩
  · rw [goesV, if_neg h, if_neg h2, if_pos h3]; exact ⟨by kernel_rfl, .refl _, .refl _, trivial⟩
  · rw [goesV, if_neg h, if_neg h2, if_neg h3, if_pos h4]; exact ⟨by kernel_rfl, .refl _, .refl _, trivial⟩
  · rw [goesV, if_neg h, if_neg h2, if_neg h3, if_neg h4]; exact ⟨.refl _, .refl _, trivial⟩
theorem spec_l7Branch (m : GMach) (i : GIns) (hm : RightM m) (hn : -256 ≤ i.n ∧ i.n ≤ 256) : Con 99 [.pb (GMach.ow m), .agg (GIns.ro i)] (.tup []) [some (.pb (GMach.ow (bif goesV m i.op then jmpR m i.n else m))), none] := by
  have h7 : (7 : Int) < ((GInt.ros m.r).length : Int) := by rw [regs_len hm]; decide
  have r7 := reg_row hm (i := 7) (by decide) (by decide)
  have b7 := hm.reg 7
  have e1 : IntKind.wrap .i64 (2 * i.n) = 2 * i.n := w64 (by omega) (by omega)
  have e2 : IntKind.wrap .i64 (readR m 7 + 2 * i.n) = readR m 7 + 2 * i.n := w64 (by omega) (by omega)
  cases hg : goesV m i.op with
  | true =>
    rw [cond_true]
    refine conI [] preAll (fun _ => false) Try.func99 (fun _ h => by cases h) ?_
    refine ⟨fun h => ?_, fun h => ⟨fun h2 => ?_, fun h2 => ⟨fun h3 => ?_, fun h3 => ⟨fun h4 => ?_, fun h4 => ?_⟩⟩⟩⟩ <;> simp only [decide_eq_true_eq, decide_eq_false_iff_not] at *
    · rw [goesV, if_pos h] at hg
      exact ⟨fun _ => ⟨by decide, h7, _, r7, [.ro], .int .i64 (wr16 (readR m 7 + 2 * i.n)), [none], (by rw [e1, e2]; exact spec_Wrap _), trivial, by decide, h7, _, r7, by kernel_rfl, .refl _, .of_eq (pbR m _ _ (reg_set m 7 _)), trivial⟩, fun h9 => (by rw [hg] at h9; cases h9)⟩
    · rw [goesV, if_neg h, if_pos h2] at hg
      exact ⟨fun _ => ⟨by decide, h7, _, r7, [.ro], .int .i64 (wr16 (readR m 7 + 2 * i.n)), [none], (by rw [e1, e2]; exact spec_Wrap _), trivial, by decide, h7, _, r7, by kernel_rfl, .refl _, .of_eq (pbR m _ _ (reg_set m 7 _)), trivial⟩, fun h9 => (by rw [hg] at h9; cases h9)⟩
    · rw [goesV, if_neg h, if_neg h2, if_pos h3] at hg
      exact ⟨by kernel_rfl, fun _ => ⟨by decide, h7, _, r7, [.ro], .int .i64 (wr16 (readR m 7 + 2 * i.n)), [none], (by rw [e1, e2]; exact spec_Wrap _), trivial, by decide, h7, _, r7, by kernel_rfl, .refl _, .of_eq (pbR m _ _ (reg_set m 7 _)), trivial⟩, fun h9 => (by rw [hg] at h9; cases h9)⟩
    · rw [goesV, if_neg h, if_neg h2, if_neg h3, if_pos h4] at hg
      exact ⟨by kernel_rfl, fun _ => ⟨by decide, h7, _, r7, [.ro], .int .i64 (wr16 (readR m 7 + 2 * i.n)), [none], (by rw [e1, e2]; exact spec_Wrap _), trivial, by decide, h7, _, r7, by kernel_rfl, .refl _, .of_eq (pbR m _ _ (reg_set m 7 _)), trivial⟩, fun h9 => (by rw [hg] at h9; cases h9)⟩
    · exact ⟨by decide, h7, _, r7, [.ro], .int .i64 (wr16 (readR m 7 + 2 * i.n)), [none], (by rw [e1, e2]; exact spec_Wrap _), trivial, by decide, h7, _, r7, by kernel_rfl, .refl _, .of_eq (pbR m _ _ (reg_set m 7 _)), trivial⟩
  | false =>
    rw [cond_false]
    refine conI [] preAll (fun _ => false) Try.func99 (fun _ h => by cases h) ?_
    refine ⟨fun h => ?_, fun h => ⟨fun h2 => ?_, fun h2 => ⟨fun h3 => ?_, fun h3 => ⟨fun h4 => ?_, fun h4 => ?_⟩⟩⟩⟩ <;> simp only [decide_eq_true_eq, decide_eq_false_iff_not] at *
    · rw [goesV, if_pos h] at hg
      exact ⟨fun h9 => (by rw [hg] at h9; cases h9), fun _ => ⟨.refl _, .refl _, trivial⟩⟩
    · rw [goesV, if_neg h, if_pos h2] at hg
      exact ⟨fun h9 => (by rw [hg] at h9; cases h9), fun _ => ⟨.refl _, .refl _, trivial⟩⟩
    · rw [goesV, if_neg h, if_neg h2, if_pos h3] at hg
      exact ⟨by kernel_rfl, fun h9 => (by rw [hg] at h9; cases h9), fun _ => ⟨.refl _, .refl _, trivial⟩⟩
    · rw [goesV, if_neg h, if_neg h2, if_neg h3, if_pos h4] at hg
      exact ⟨by kernel_rfl, fun h9 => (by rw [hg] at h9; cases h9), fun _ => ⟨.refl _, .refl _, trivial⟩⟩
    · rw [goesV, if_neg h, if_neg h2, if_neg h3, if_neg h4] at hg; cases hg
theorem impl_jump (m : GMach) (i : GIns) (p : GPlace) (hm : RightM m) (hp : PlaceR p) (hn : i.op = 15 → 0 ≤ i.n ∧ i.n ≤ 7) : MethC 71 m [.agg (GIns.ro i), .agg (GPlace.ro p)] (goV m p (if i.op = 15 then i.n else -1)) := by
  by_cases hr : p.reg = -1
  case neg =>
    refine MethC.bad (by rw [goV, if_pos hr]) m ?_
    refine conI [] preAll (fun _ => false) Try.func71 (fun _ h => by cases h) ?_
    exact ⟨fun _ => ⟨.refl _, .refl _, trivial⟩, fun h => absurd (by simpa using h) hr⟩
  have hpos : 0 ≤ p.pos ∧ p.pos ≤ 65535 := by rcases hp with h1 | h1 <;> omega
  have h7 : (7 : Int) < ((GInt.ros m.r).length : Int) := by rw [regs_len hm]; decide
  have r7 := reg_row hm (i := 7) (by decide) (by decide)
  by_cases ho : i.op = 15
  case neg =>
    refine MethC.ok (m' := setR m 7 p.pos) (by rw [goV, if_neg (by simpa using hr), if_neg ho, if_neg (by decide)]) ?_
    refine conI [] preAll (fun _ => false) Try.func71 (fun _ h => by cases h) ?_
    refine ⟨fun h => absurd hr (by simpa using h), fun _ => ⟨fun h => absurd (by simpa using h) ho, fun _ => ?_⟩⟩
    exact ⟨by decide, h7, _, r7, by kernel_rfl, .refl _, .of_eq (pbR m _ _ (reg_set m 7 _)), trivial⟩
  replace hn := hn ho
  have b6 := hm.reg 6
  have w6 : IntKind.wrap .i64 (readR m 6 - 2) = readR m 6 - 2 := w64 (by omega) (by omega)
  have h6 : (6 : Int) < ((GInt.ros m.r).length : Int) := by rw [regs_len hm]; decide
  have r6 := reg_row hm (i := 6) (by decide) (by decide)
  have hm1 : RightM (pushM m) := hm.setR 6 (wr16_in _)
  have q6 := setR_at m hm 6 (wr16 (readR m 6 - 2)) 6 (wr16_in _) (by decide) (by decide)
  have qn := setR_at m hm 6 (wr16 (readR m 6 - 2)) i.n (wr16_in _) hn.1 (by omega)
  have ql := setR_len m hm 6 (wr16 (readR m 6 - 2))
  have l6 : (6 : Int) < (((GInt.ros m.r).set (6 : Int).toNat [.int .i64 (wr16 (readR m 6 - 2))]).length : Int) := by rw [ql]; decide
  have ln : i.n < (((GInt.ros m.r).set (6 : Int).toNat [.int .i64 (wr16 (readR m 6 - 2))]).length : Int) := by rw [ql]; omega
  have hP : PlaceR ⟨-1, readR (pushM m) 6⟩ := .inr ⟨rfl, hm1.reg 6⟩
  obtain ⟨m2, h2, c⟩ := impl_put (pushM m) ⟨-1, readR (pushM m) 6⟩ (readR (pushM m) i.n) hm1 hP
  cases hs : stoV (pushM m) ⟨-1, readR (pushM m) 6⟩ (readR (pushM m) i.n) with
  | none =>
    rw [hs] at c
    refine MethC.bad (by rw [goV, if_neg (by simpa using hr), if_pos ho, if_pos hn.1, hs]) m2 ?_
    refine conI [] preAll (fun _ => false) Try.func71 (fun _ h => by cases h) ?_
    refine ⟨fun h => absurd hr (by simpa using h), fun _ => ⟨fun _ => ?_, fun h => absurd ho (by simpa using h)⟩⟩
    refine ⟨by decide, h6, _, r6, [.ro], .int .i64 (wr16 (readR m 6 - 2)), [none], (by rw [w6]; exact impl_Wrap _), trivial, by decide, h6, _, r6, by kernel_rfl, ?_⟩
    refine ⟨by decide, l6, _, q6, hn.1, ln, _, qn, ?_⟩
    exact ⟨[.mut, .ro, .ro], .ff, [some (.pb (GMach.ow m2)), none, none], (by rw [← pbR m _ (pushM m) (reg_set m 6 _)] at c; exact .nbr rfl c), trivial, by kernel_rfl, .refl _, .refl _, trivial⟩
  | some m3 =>
    have em := h2 m3 hs
    subst em
    rw [hs] at c
    have hm3 := stoV_right hm1 hs
    have b7 := hm3.reg 7
    have hm4 : RightM (setR m3 i.n (readR m3 7)) := hm3.setR _ b7
    have hl3 := regs_len hm3
    have h73 : (7 : Int) < ((GInt.ros m3.r).length : Int) := by rw [hl3]; decide
    have hn3 : i.n < ((GInt.ros m3.r).length : Int) := by rw [hl3]; omega
    have r73 := reg_row hm3 (i := 7) (by decide) (by decide)
    have rn3 := reg_row hm3 (i := i.n) hn.1 (by omega)
    have l74 : (7 : Int) < (((GInt.ros m3.r).set i.n.toNat [.int .i64 (readR m3 7)]).length : Int) := by rw [setR_len m3 hm3]; decide
    have r74 := setR_at m3 hm3 i.n (readR m3 7) 7 b7 (by decide) (by decide)
    have hs7 : ((GInt.ros m3.r).set i.n.toNat [.int .i64 (readR m3 7)]).set (7 : Int).toNat [.int .i64 p.pos] = GInt.ros (setR (setR m3 i.n (readR m3 7)) 7 p.pos).r := by
      rw [reg_set m3]
      exact reg_set (setR m3 i.n (readR m3 7)) 7 p.pos
    refine MethC.ok (m' := setR (setR m3 i.n (readR m3 7)) 7 p.pos) (by rw [goV, if_neg (by simpa using hr), if_pos ho, if_pos hn.1, hs]) ?_
    refine conI [] preAll (fun _ => false) Try.func71 (fun _ h => by cases h) ?_
    refine ⟨fun h => absurd hr (by simpa using h), fun _ => ⟨fun _ => ?_, fun h => absurd ho (by simpa using h)⟩⟩
    refine ⟨by decide, h6, _, r6, [.ro], .int .i64 (wr16 (readR m 6 - 2)), [none], (by rw [w6]; exact impl_Wrap _), trivial, by decide, h6, _, r6, by kernel_rfl, ?_⟩
    refine ⟨by decide, l6, _, q6, hn.1, ln, _, qn, ?_⟩
    refine ⟨[.mut, .ro, .ro], .tt, [some (.pb (GMach.ow m3)), none, none], (by rw [← pbR m _ (pushM m) (reg_set m 6 _)] at c; exact .nbr rfl c), trivial, by kernel_rfl, ?_⟩
    refine ⟨by decide, h73, _, r73, hn.1, hn3, _, rn3, by kernel_rfl, ?_⟩
    exact ⟨by decide, l74, _, r74, by kernel_rfl, .refl _, .of_eq (pbR m3 _ _ hs7), trivial⟩
theorem spec_l7Go (m : GMach) (n : Int) (p : GPlace) (hm : RightM m) (hp : PlaceR p) (hn7 : n ≤ 7) : MethC 96 m [.agg (GPlace.ro p), .int .i64 n] (goV m p n) := by
  by_cases hr : p.reg = -1
  case neg =>
    refine MethC.bad (by rw [goV, if_pos hr]) m ?_
    refine conI [] preAll (fun _ => false) Try.func96 (fun _ h => by cases h) ?_
    exact ⟨fun _ => ⟨.refl _, .refl _, trivial⟩, fun h => absurd (by simpa using h) hr⟩
  have hpos : 0 ≤ p.pos ∧ p.pos ≤ 65535 := by rcases hp with h1 | h1 <;> omega
  have h7 : (7 : Int) < ((GInt.ros m.r).length : Int) := by rw [regs_len hm]; decide
  have r7 := reg_row hm (i := 7) (by decide) (by decide)
  by_cases hn0 : 0 ≤ n
  case neg =>
    refine MethC.ok (m' := setR m 7 p.pos) (by rw [goV, if_neg (by simpa using hr), if_neg hn0]) ?_
    refine conI [] preAll (fun _ => false) Try.func96 (fun _ h => by cases h) ?_
    refine ⟨fun h => absurd hr (by simpa using h), fun _ => ⟨fun h => absurd (by simpa using h) hn0, fun _ => ?_⟩⟩
    exact ⟨by decide, h7, _, r7, by kernel_rfl, .refl _, .of_eq (pbR m _ _ (reg_set m 7 _)), trivial⟩
  have hn : 0 ≤ n ∧ n ≤ 7 := ⟨hn0, hn7⟩
  have b6 := hm.reg 6
  have w6 : IntKind.wrap .i64 (readR m 6 - 2) = readR m 6 - 2 := w64 (by omega) (by omega)
  have h6 : (6 : Int) < ((GInt.ros m.r).length : Int) := by rw [regs_len hm]; decide
  have r6 := reg_row hm (i := 6) (by decide) (by decide)
  have hm1 : RightM (pushM m) := hm.setR 6 (wr16_in _)
  have q6 := setR_at m hm 6 (wr16 (readR m 6 - 2)) 6 (wr16_in _) (by decide) (by decide)
  have qn := setR_at m hm 6 (wr16 (readR m 6 - 2)) n (wr16_in _) hn.1 (by omega)
  have ql := setR_len m hm 6 (wr16 (readR m 6 - 2))
  have l6 : (6 : Int) < (((GInt.ros m.r).set (6 : Int).toNat [.int .i64 (wr16 (readR m 6 - 2))]).length : Int) := by rw [ql]; decide
  have ln : n < (((GInt.ros m.r).set (6 : Int).toNat [.int .i64 (wr16 (readR m 6 - 2))]).length : Int) := by rw [ql]; omega
  have hP : PlaceR ⟨-1, readR (pushM m) 6⟩ := .inr ⟨rfl, hm1.reg 6⟩
  obtain ⟨m2, h2, c⟩ := spec_l7Put (pushM m) ⟨-1, readR (pushM m) 6⟩ (readR (pushM m) n) hm1 hP
  cases hs : stoV (pushM m) ⟨-1, readR (pushM m) 6⟩ (readR (pushM m) n) with
  | none =>
    rw [hs] at c
    refine MethC.bad (by rw [goV, if_neg (by simpa using hr), if_pos hn0, hs]) m2 ?_
    refine conI [] preAll (fun _ => false) Try.func96 (fun _ h => by cases h) ?_
    refine ⟨fun h => absurd hr (by simpa using h), fun _ => ⟨fun _ => ?_, fun h => absurd hn0 (by simpa using h)⟩⟩
    refine ⟨by decide, h6, _, r6, [.ro], .int .i64 (wr16 (readR m 6 - 2)), [none], (by rw [w6]; exact spec_Wrap _), trivial, by decide, h6, _, r6, by kernel_rfl, ?_⟩
    refine ⟨by decide, l6, _, q6, hn.1, ln, _, qn, ?_⟩
    exact ⟨[.mut, .ro, .ro], .ff, [some (.pb (GMach.ow m2)), none, none], (by rw [← pbR m _ (pushM m) (reg_set m 6 _)] at c; exact .nbr rfl c), trivial, by kernel_rfl, .refl _, .refl _, trivial⟩
  | some m3 =>
    have em := h2 m3 hs
    subst em
    rw [hs] at c
    have hm3 := stoV_right hm1 hs
    have b7 := hm3.reg 7
    have hm4 : RightM (setR m3 n (readR m3 7)) := hm3.setR _ b7
    have hl3 := regs_len hm3
    have h73 : (7 : Int) < ((GInt.ros m3.r).length : Int) := by rw [hl3]; decide
    have hn3 : n < ((GInt.ros m3.r).length : Int) := by rw [hl3]; omega
    have r73 := reg_row hm3 (i := 7) (by decide) (by decide)
    have rn3 := reg_row hm3 (i := n) hn.1 (by omega)
    have l74 : (7 : Int) < (((GInt.ros m3.r).set n.toNat [.int .i64 (readR m3 7)]).length : Int) := by rw [setR_len m3 hm3]; decide
    have r74 := setR_at m3 hm3 n (readR m3 7) 7 b7 (by decide) (by decide)
    have hs7 : ((GInt.ros m3.r).set n.toNat [.int .i64 (readR m3 7)]).set (7 : Int).toNat [.int .i64 p.pos] = GInt.ros (setR (setR m3 n (readR m3 7)) 7 p.pos).r := by
      rw [reg_set m3]
      exact reg_set (setR m3 n (readR m3 7)) 7 p.pos
    refine MethC.ok (m' := setR (setR m3 n (readR m3 7)) 7 p.pos) (by rw [goV, if_neg (by simpa using hr), if_pos hn0, hs]) ?_
    refine conI [] preAll (fun _ => false) Try.func96 (fun _ h => by cases h) ?_
    refine ⟨fun h => absurd hr (by simpa using h), fun _ => ⟨fun _ => ?_, fun h => absurd hn0 (by simpa using h)⟩⟩
    refine ⟨by decide, h6, _, r6, [.ro], .int .i64 (wr16 (readR m 6 - 2)), [none], (by rw [w6]; exact spec_Wrap _), trivial, by decide, h6, _, r6, by kernel_rfl, ?_⟩
    refine ⟨by decide, l6, _, q6, hn.1, ln, _, qn, ?_⟩
    refine ⟨[.mut, .ro, .ro], .tt, [some (.pb (GMach.ow m3)), none, none], (by rw [← pbR m _ (pushM m) (reg_set m 6 _)] at c; exact .nbr rfl c), trivial, by kernel_rfl, ?_⟩
    refine ⟨by decide, h73, _, r73, hn.1, hn3, _, rn3, by kernel_rfl, ?_⟩
    exact ⟨by decide, l74, _, r74, by kernel_rfl, .refl _, .of_eq (pbR m3 _ _ hs7), trivial⟩
theorem impl_back (m : GMach) (n : Int) (hm : RightM m) (hn : 0 ≤ n ∧ n ≤ 7) : MethC 72 m [.int .i64 n] (retV m n) := by
  have h7 : (7 : Int) < ((GInt.ros m.r).length : Int) := by rw [regs_len hm]; decide
  have hn8 : n < ((GInt.ros m.r).length : Int) := by rw [regs_len hm]; omega
  have r7 := reg_row hm (i := 7) (by decide) (by decide)
  have rn := reg_row hm (i := n) hn.1 (by omega)
  have bn := hm.reg n
  have hm1 : RightM (setR m 7 (readR m n)) := hm.setR 7 bn
  have b6 := hm1.reg 6
  have w6 : IntKind.wrap .i64 (readR (setR m 7 (readR m n)) 6 + 2) = readR (setR m 7 (readR m n)) 6 + 2 := w64 (by omega) (by omega)
  have q6 := setR_at m hm 7 (readR m n) 6 bn (by decide) (by decide)
  have l6 : (6 : Int) < (((GInt.ros m.r).set (7 : Int).toNat [.int .i64 (readR m n)]).length : Int) := by rw [setR_len m hm]; decide
  have hm2 : RightM (setR (setR m 7 (readR m n)) 6 (wr16 (readR (setR m 7 (readR m n)) 6 + 2))) := hm1.setR 6 (wr16_in _)
  have e2 : ((GInt.ros m.r).set (7 : Int).toNat [.int .i64 (readR m n)]).set (6 : Int).toNat [.int .i64 (wr16 (readR (setR m 7 (readR m n)) 6 + 2))] = GInt.ros (setR (setR m 7 (readR m n)) 6 (wr16 (readR (setR m 7 (readR m n)) 6 + 2))).r := by
    rw [reg_set m]; exact reg_set (setR m 7 (readR m n)) 6 _
  have e3 : ∀ x, (((GInt.ros m.r).set (7 : Int).toNat [.int .i64 (readR m n)]).set (6 : Int).toNat [.int .i64 (wr16 (readR (setR m 7 (readR m n)) 6 + 2))]).set n.toNat [.int .i64 x] = GInt.ros (setR (setR (setR m 7 (readR m n)) 6 (wr16 (readR (setR m 7 (readR m n)) 6 + 2))) n x).r := fun x => by
    rw [e2]; exact reg_set (setR (setR m 7 (readR m n)) 6 _) n x
  have qn := reg_row hm2 (i := n) hn.1 (by omega)
  rw [← e2] at qn
  have ln : n < ((((GInt.ros m.r).set (7 : Int).toNat [.int .i64 (readR m n)]).set (6 : Int).toNat [.int .i64 (wr16 (readR (setR m 7 (readR m n)) 6 + 2))]).length : Int) := by rw [e2, regs_len hm2]; omega
  have cr := impl_ReadW (setR m 7 (readR m n)) (readR (setR m 7 (readR m n)) 6) (by rw [hm1.mem]; decide)
  cases hr : readV (setR m 7 (readR m n)) (readR (setR m 7 (readR m n)) 6) with
  | none =>
    rw [hr] at cr
    refine MethC.bad (by rw [retV, hr]) (setR (setR (setR m 7 (readR m n)) 6 (wr16 (readR (setR m 7 (readR m n)) 6 + 2))) n 0) ?_
    refine conI [] preAll (fun _ => false) Try.func72 (fun _ h => by cases h) ?_
    refine ⟨hn.1, hn8, _, rn, by decide, h7, _, r7, by kernel_rfl, ?_⟩
    refine ⟨by decide, l6, _, q6, [.ro, .ro], .tup [.int .i64 0, .ff], [none, none], (by rw [mach_toRo' m _ _ (reg_set m 7 (readR m n))]; exact .nbr rfl cr), ⟨⟨trivial, trivial, trivial⟩, trivial⟩, by kernel_rfl, ?_⟩
    refine ⟨by decide, l6, _, q6, [.ro], .int .i64 (wr16 (readR (setR m 7 (readR m n)) 6 + 2)), [none], (by rw [w6]; exact impl_Wrap _), trivial, by decide, l6, _, q6, by kernel_rfl, ?_⟩
    exact ⟨hn.1, ln, _, qn, .refl _, .of_eq (pbR m _ _ (e3 0)), trivial⟩
  | some x =>
    rw [hr] at cr
    refine MethC.ok (m' := setR (setR (setR m 7 (readR m n)) 6 (wr16 (readR (setR m 7 (readR m n)) 6 + 2))) n x) (by rw [retV, hr]) ?_
    refine conI [] preAll (fun _ => false) Try.func72 (fun _ h => by cases h) ?_
    refine ⟨hn.1, hn8, _, rn, by decide, h7, _, r7, by kernel_rfl, ?_⟩
    refine ⟨by decide, l6, _, q6, [.ro, .ro], .tup [.int .i64 x, .tt], [none, none], (by rw [mach_toRo' m _ _ (reg_set m 7 (readR m n))]; exact .nbr rfl cr), ⟨⟨trivial, trivial, trivial⟩, trivial⟩, by kernel_rfl, ?_⟩
    refine ⟨by decide, l6, _, q6, [.ro], .int .i64 (wr16 (readR (setR m 7 (readR m n)) 6 + 2)), [none], (by rw [w6]; exact impl_Wrap _), trivial, by decide, l6, _, q6, by kernel_rfl, ?_⟩
    exact ⟨hn.1, ln, _, qn, .refl _, .of_eq (pbR m _ _ (e3 x)), trivial⟩
theorem spec_l7Back (m : GMach) (n : Int) (hm : RightM m) (hn : 0 ≤ n ∧ n ≤ 7) : MethC 98 m [.int .i64 n] (retV m n) := by
  have h7 : (7 : Int) < ((GInt.ros m.r).length : Int) := by rw [regs_len hm]; decide
  have hn8 : n < ((GInt.ros m.r).length : Int) := by rw [regs_len hm]; omega
  have r7 := reg_row hm (i := 7) (by decide) (by decide)
  have rn := reg_row hm (i := n) hn.1 (by omega)
  have bn := hm.reg n
  have hm1 : RightM (setR m 7 (readR m n)) := hm.setR 7 bn
  have b6 := hm1.reg 6
  have w6 : IntKind.wrap .i64 (readR (setR m 7 (readR m n)) 6 + 2) = readR (setR m 7 (readR m n)) 6 + 2 := w64 (by omega) (by omega)
  have q6 := setR_at m hm 7 (readR m n) 6 bn (by decide) (by decide)
  have l6 : (6 : Int) < (((GInt.ros m.r).set (7 : Int).toNat [.int .i64 (readR m n)]).length : Int) := by rw [setR_len m hm]; decide
  have hm2 : RightM (setR (setR m 7 (readR m n)) 6 (wr16 (readR (setR m 7 (readR m n)) 6 + 2))) := hm1.setR 6 (wr16_in _)
  have e2 : ((GInt.ros m.r).set (7 : Int).toNat [.int .i64 (readR m n)]).set (6 : Int).toNat [.int .i64 (wr16 (readR (setR m 7 (readR m n)) 6 + 2))] = GInt.ros (setR (setR m 7 (readR m n)) 6 (wr16 (readR (setR m 7 (readR m n)) 6 + 2))).r := by
    rw [reg_set m]; exact reg_set (setR m 7 (readR m n)) 6 _
  have e3 : ∀ x, (((GInt.ros m.r).set (7 : Int).toNat [.int .i64 (readR m n)]).set (6 : Int).toNat [.int .i64 (wr16 (readR (setR m 7 (readR m n)) 6 + 2))]).set n.toNat [.int .i64 x] = GInt.ros (setR (setR (setR m 7 (readR m n)) 6 (wr16 (readR (setR m 7 (readR m n)) 6 + 2))) n x).r := fun x => by
    rw [e2]; exact reg_set (setR (setR m 7 (readR m n)) 6 _) n x
  have qn := reg_row hm2 (i := n) hn.1 (by omega)
  rw [← e2] at qn
  have ln : n < ((((GInt.ros m.r).set (7 : Int).toNat [.int .i64 (readR m n)]).set (6 : Int).toNat [.int .i64 (wr16 (readR (setR m 7 (readR m n)) 6 + 2))]).length : Int) := by rw [e2, regs_len hm2]; omega
  have cr := spec_ReadW (setR m 7 (readR m n)) (readR (setR m 7 (readR m n)) 6) (by rw [hm1.mem]; decide)
  cases hr : readV (setR m 7 (readR m n)) (readR (setR m 7 (readR m n)) 6) with
  | none =>
    rw [hr] at cr
    refine MethC.bad (by rw [retV, hr]) (setR m 7 (readR m n)) ?_
    refine conI [] preAll (fun _ => false) Try.func98 (fun _ h => by cases h) ?_
    refine ⟨hn.1, hn8, _, rn, by decide, h7, _, r7, by kernel_rfl, ?_⟩
    refine ⟨by decide, l6, _, q6, [.ro, .ro], .tup [.int .i64 0, .ff], [none, none], (by rw [mach_toRo' m _ _ (reg_set m 7 (readR m n))]; exact .nbr rfl cr), ⟨⟨trivial, trivial, trivial⟩, trivial⟩, by kernel_rfl, ?_⟩
    exact ⟨.refl _, .of_eq (pbR m _ _ (reg_set m 7 (readR m n))), trivial⟩
  | some x =>
    rw [hr] at cr
    refine MethC.ok (m' := setR (setR (setR m 7 (readR m n)) 6 (wr16 (readR (setR m 7 (readR m n)) 6 + 2))) n x) (by rw [retV, hr]) ?_
    refine conI [] preAll (fun _ => false) Try.func98 (fun _ h => by cases h) ?_
    refine ⟨hn.1, hn8, _, rn, by decide, h7, _, r7, by kernel_rfl, ?_⟩
    refine ⟨by decide, l6, _, q6, [.ro, .ro], .tup [.int .i64 x, .tt], [none, none], (by rw [mach_toRo' m _ _ (reg_set m 7 (readR m n))]; exact .nbr rfl cr), ⟨⟨trivial, trivial, trivial⟩, trivial⟩, by kernel_rfl, ?_⟩
    refine ⟨by decide, l6, _, q6, [.ro], .int .i64 (wr16 (readR (setR m 7 (readR m n)) 6 + 2)), [none], (by rw [w6]; exact spec_Wrap _), trivial, by decide, l6, _, q6, by kernel_rfl, ?_⟩
    exact ⟨hn.1, ln, _, qn, .refl _, .of_eq (pbR m _ _ (e3 x)), trivial⟩
end Go.Proofs.VI
