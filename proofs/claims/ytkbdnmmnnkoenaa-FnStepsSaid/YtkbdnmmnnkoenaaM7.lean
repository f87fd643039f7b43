/- Contracts of functions, and what they rest on: l07store. -/
import Derived.Test.YtkbdnmmnnkoenaaM6
set_option linter.unusedVariables false
set_option linter.unusedSimpArgs false
set_option maxRecDepth 10000
set_option maxHeartbeats 4000000
namespace Go.Proofs.VI
open Go
def ldV (m : GMach) (p : GPlace) : Option Int := if p.reg = -1 then readV m p.pos else some (readR m p.reg)
def stoV (m : GMach) (p : GPlace) (v : Int) : Option GMach := if p.reg = -1 then writeV m p.pos v else some (setR m p.reg (wr16 v))
theorem stoV_right {m m' : GMach} {p : GPlace} {v : Int} (h : RightM m) (hs : stoV m p v = some m') : RightM m' := by
  unfold stoV at hs
  split at hs
  · exact h.write hs
  · injection hs with hs; subst hs; exact h.setR _ (wr16_in _)
theorem ldV_right {m : GMach} {p : GPlace} {v : Int} (h : RightM m) (hs : ldV m p = some v) : 0 ≤ v ∧ v ≤ 65535 := by
  unfold ldV at hs
  split at hs
  · exact h.read hs
  · injection hs with hs; subst hs; exact h.reg _
def gS (m : GMach) (r : Option GMach) : AV := .tup [.agg (GMach.ow (r.getD m)), .bool r.isSome]
theorem mach_fit {m : GMach} (h : RightM m) : GMach.fit m := h.fit
theorem mach_ow (m : GMach) (mem r : List (List AV)) (m' : GMach) (h1 : mem = GInt.ros m'.mem) (h2 : r = GInt.ros m'.r) (he : m' = { m with mem := m'.mem, r := m'.r } := by rfl) : [AV.ow 1 mem, .ow 1 r, .bool m.n, .bool m.z, .bool m.v, .bool m.c, .ow 1 (GInt.ows m.inp), .ow 1 (GInt.ows m.out), .int .i64 m.stop] = GMach.ow m' := by
  subst h1 h2
  rw [he]; rfl
theorem writeV_some {m : GMach} (hm : RightM m) {a : Int} (v : Int) (h : adr a = true) : writeV m a v = some { m with mem := m.mem.set (a / 2).toNat (wr16 v) } := by
  have := (inI_true.1 (by simp only [adr, Bool.and_eq_true] at h; exact h.1))
  rw [writeV, if_pos ⟨h, by rw [hm.mem]; omega⟩]
theorem writeV_none {m : GMach} {a : Int} (v : Int) (h : adr a = false) : writeV m a v = none := by
  rw [writeV, if_neg (by rw [h]; simp)]
theorem mem_set (m : GMach) (i : Int) (v : Int) : (GInt.ros m.mem).set i.toNat [.int .i64 v] = GInt.ros (m.mem.set i.toNat v) := by
  rw [GInt.ros_eq, GInt.ros_eq, List.map_set]; rfl
theorem impl_WriteW (m : GMach) (a v : Int) (hm : RightM m) : Con 17 [.agg (GMach.ro m), .int .i64 a, .int .i64 v] (gS m (writeV m a v)) [none, none, none] := by
  have hlen : ((GInt.ros m.mem).length : Int) = 256 := by simp [hm.mem]
  refine con Try.func17 ?_
  refine ⟨[.ro], .agg (GMach.ow m), [none], impl_copyMach m hm.fit, trivial, ?_⟩
  cases ha : adr a with
  | false =>
    refine ⟨[.ro], .ff, [none], (by have c := impl_isAddr a; rw [ha] at c; exact .nbr rfl c), trivial, ?_⟩
    rw [writeV_none v ha]
    exact ⟨.refl _, trivial⟩
  | true =>
    have h0 := inI_true.1 (by simp only [adr, Bool.and_eq_true] at ha; exact ha.1)
    have e : IntKind.wrap .i64 (a.tdiv 2) = a / 2 := by rw [tdiv2 h0.1]; exact w64 (by omega) (by omega)
    have hrow : (GInt.ros m.mem)[(IntKind.wrap .i64 (a.tdiv 2)).toNat]? = some [.int .i64 (m.mem.getD (a / 2).toNat 0)] := by rw [e, int_row (by rw [hm.mem]; omega), getD_at (by rw [hm.mem]; omega)]; rfl
    have hs : (GInt.ros m.mem).set (IntKind.wrap .i64 (a.tdiv 2)).toNat [.int .i64 (wr16 v)] = GInt.ros (m.mem.set (a / 2).toNat (wr16 v)) := by rw [e]; exact mem_set m (a / 2) (wr16 v)
    refine ⟨[.ro], .tt, [none], (by have c := impl_isAddr a; rw [ha] at c; exact .nbr rfl c), trivial, by decide, fun h2 => absurd h2 ?_, fun h2 => ?_⟩
    · simp only [decide_eq_true_eq, hlen, e]; omega
    rw [writeV_some hm v ha]
    refine ⟨by decide, [.ro], .int .i64 (wr16 v), [none], impl_Wrap v, trivial, by rw [e]; omega, by rw [hlen, e]; omega, _, hrow, by kernel_rfl, ?_⟩
    exact ⟨.of_eq (congrArg (fun x => AV.tup [.agg x, .bool true]) (mach_ow m _ _ { m with mem := m.mem.set (a / 2).toNat (wr16 v) } hs rfl)), trivial⟩
theorem spec_WriteW (m : GMach) (a v : Int) (hm : RightM m) : Con 118 [.agg (GMach.ro m), .int .i64 a, .int .i64 v] (gS m (writeV m a v)) [none, none, none] := by
  have hlen : ((GInt.ros m.mem).length : Int) = 256 := by simp [hm.mem]
  have cr := spec_ReadW m a (by rw [hm.mem]; decide)
  refine con Try.func118 ?_
  refine ⟨[.ro], .agg (GMach.ow m), [none], spec_l5Copy m hm.fit, trivial, ?_⟩
  cases ha : adr a with
  | false =>
    have hr : readV m a = none := by rw [readV, if_neg (by rw [ha]; simp)]
    rw [hr] at cr
    refine ⟨[.ro, .ro], .tup [.int .i64 0, .ff], [none, none], .nbr rfl cr, trivial, ?_⟩
    rw [writeV_none v ha]
    exact ⟨.refl _, trivial⟩
  | true =>
    have h0 := inI_true.1 (by simp only [adr, Bool.and_eq_true] at ha; exact ha.1)
    have e : IntKind.wrap .i64 (a.tdiv 2) = a / 2 := by rw [tdiv2 h0.1]; exact w64 (by omega) (by omega)
    have hrow : (GInt.ros m.mem)[(IntKind.wrap .i64 (a.tdiv 2)).toNat]? = some [.int .i64 (m.mem.getD (a / 2).toNat 0)] := by rw [e, int_row (by rw [hm.mem]; omega), getD_at (by rw [hm.mem]; omega)]; rfl
    have hs : (GInt.ros m.mem).set (IntKind.wrap .i64 (a.tdiv 2)).toNat [.int .i64 (wr16 v)] = GInt.ros (m.mem.set (a / 2).toNat (wr16 v)) := by rw [e]; exact mem_set m (a / 2) (wr16 v)
    have hr : readV m a = some (m.mem.getD (a / 2).toNat 0) := by rw [readV, if_pos ⟨ha, by rw [hm.mem]; omega⟩]
    rw [hr] at cr
    refine ⟨[.ro, .ro], .tup [.int .i64 (m.mem.getD (a / 2).toNat 0), .tt], [none, none], .nbr rfl cr, trivial, ?_⟩
    rw [writeV_some hm v ha]
    refine ⟨by decide, [.ro], .int .i64 (wr16 v), [none], spec_Wrap v, trivial, by rw [e]; omega, by rw [hlen, e]; omega, _, hrow, by kernel_rfl, ?_⟩
    exact ⟨.of_eq (congrArg (fun x => AV.tup [.agg x, .bool true]) (mach_ow m _ _ { m with mem := m.mem.set (a / 2).toNat (wr16 v) } hs rfl)), trivial⟩
theorem impl_isRegPlace (m : GMach) (p : GPlace) (hm : RightM m) (hp : PlaceR p) : Con 86 [.agg (GMach.ro m), .agg (GPlace.ro p)] (.bool (!decide (p.reg = -1))) [none, none] := by
  have hlen : ((GInt.ros m.r).length : Int) = 8 := by simp [hm.r]
  have e : IntKind.wrap .i64 (((GInt.ros m.r).length : Int) - 1) = 7 := by rw [hlen]; rfl
  refine con Try.func86 ?_
  refine ⟨[.ro, .ro, .ro], .bool (inI p.reg 0 7), [none, none, none], (by rw [e]; exact impl_within p.reg 0 7), trivial, fun h => ⟨.of_eq (congrArg AV.bool ?_), trivial⟩, fun h => ⟨.of_eq (congrArg AV.bool ?_), trivial⟩⟩
  · have := inI_true.1 h
    rcases hp with h1 | h1
    · rw [h1.2.2]; simp; omega
    · omega
  · rcases hp with h1 | h1
    · rw [inI_true.2 ⟨h1.1, h1.2.1⟩] at h; cases h
    · rw [h1.1]; rfl
theorem impl_Load (m : GMach) (p : GPlace) (hm : RightM m) (hp : PlaceR p) : Con 68 [.agg (GMach.ro m), .agg (GPlace.ro p)] (gR (ldV m p)) [none, none] := by
  have c := impl_isRegPlace m p hm hp
  refine con Try.func68 ?_
  by_cases h : p.reg = -1
  · rw [decide_eq_true h] at c
    refine ⟨[.ro, .ro], .ff, [none, none], .nbr rfl c, trivial, fun h2 => ?_, fun h2 => ?_⟩
    · rw [h] at h2; cases h2
    refine ⟨[.ro, .ro], gR (readV m p.pos), [none, none], impl_ReadW m p.pos (by rw [hm.mem]; decide), trivial, ?_⟩
    rw [ldV, if_pos h]
    exact ⟨.refl _, trivial⟩
  · rw [decide_eq_false h] at c
    have h0 : 0 ≤ p.reg ∧ p.reg ≤ 7 := by rcases hp with h1 | h1 <;> omega
    have hrow := reg_row hm (i := p.reg) h0.1 (by omega)
    have hlt : p.reg < ((GInt.ros m.r).length : Int) := by rw [regs_len hm]; omega
    refine ⟨[.ro, .ro], .tt, [none, none], .nbr rfl c, trivial, h0.1, _, hrow, ?_⟩
    rw [ldV, if_neg h]
    exact ⟨.refl _, trivial⟩
theorem spec_Load (m : GMach) (p : GPlace) (hm : RightM m) (hp : PlaceR p) : Con 94 [.agg (GMach.ro m), .agg (GPlace.ro p)] (gR (ldV m p)) [none, none] := by
  have e : IntKind.wrap .i64 (((GInt.ros m.r).length : Int) - 1) = 7 := by rw [regs_len hm]; rfl
  refine con Try.func94 ?_
  refine ⟨fun h => ?_, fun h => ?_⟩ <;> simp only [decide_eq_true_eq, decide_eq_false_iff_not] at h
  · refine ⟨[.ro, .ro], gR (readV m p.pos), [none, none], spec_ReadW m p.pos (by rw [hm.mem]; decide), trivial, ?_⟩
    rw [ldV, if_pos h]
    exact ⟨.refl _, trivial⟩
  · have h0 : 0 ≤ p.reg ∧ p.reg ≤ 7 ∧ p.pos = -1 := by rcases hp with h1 | h1 <;> omega
    refine ⟨[.ro, .ro, .ro], .tt, [none, none, none], (by rw [e]; have c := spec_l1In p.reg 0 7; rw [inI_true.2 ⟨h0.1, h0.2.1⟩] at c; exact .nbr rfl c), trivial, fun h2 => ?_, fun _ => ?_⟩
    · rw [h0.2.2] at h2; cases h2
    have hrow := reg_row hm (i := p.reg) h0.1 (by omega)
    refine ⟨h0.1, _, hrow, ?_⟩
    rw [ldV, if_neg h]
    exact ⟨.refl _, trivial⟩
theorem impl_Store (m : GMach) (p : GPlace) (v : Int) (hm : RightM m) (hp : PlaceR p) : Con 103 [.agg (GMach.ro m), .agg (GPlace.ro p), .int .i64 v] (gS m (stoV m p v)) [none, none, none] := by
  have c := impl_isRegPlace m p hm hp
  refine con Try.func103 ?_
  by_cases h : p.reg = -1
  · rw [decide_eq_true h] at c
    refine ⟨[.ro, .ro], .ff, [none, none], .nbr rfl c, trivial, fun h2 => ?_, fun h2 => ?_⟩
    · rw [h] at h2; cases h2
    refine ⟨[.ro, .ro, .ro], gS m (writeV m p.pos v), [none, none, none], impl_WriteW m p.pos v hm, trivial, ?_⟩
    rw [stoV, if_pos h]
    exact ⟨.refl _, trivial⟩
  · rw [decide_eq_false h] at c
    have h0 : 0 ≤ p.reg ∧ p.reg ≤ 7 := by rcases hp with h1 | h1 <;> omega
    have hrow := reg_row hm (i := p.reg) h0.1 (by omega)
    have hlt : p.reg < ((GInt.ros m.r).length : Int) := by rw [regs_len hm]; omega
    refine ⟨[.ro, .ro], .tt, [none, none], .nbr rfl c, trivial, [.ro], .agg (GMach.ow m), [none], impl_copyMach m hm.fit, trivial, ?_⟩
    refine ⟨[.ro], .int .i64 (wr16 v), [none], impl_Wrap v, trivial, h0.1, hlt, _, hrow, by kernel_rfl, ?_⟩
    rw [stoV, if_neg h]
    exact ⟨.of_eq (congrArg (fun x => AV.tup [.agg x, .bool true]) (mach_ow m _ _ (setR m p.reg (wr16 v)) rfl (reg_set m p.reg _))), trivial⟩
theorem spec_Store (m : GMach) (p : GPlace) (v : Int) (hm : RightM m) (hp : PlaceR p) : Con 116 [.agg (GMach.ro m), .agg (GPlace.ro p), .int .i64 v] (gS m (stoV m p v)) [none, none, none] := by
  have e : IntKind.wrap .i64 (((GInt.ros m.r).length : Int) - 1) = 7 := by rw [regs_len hm]; rfl
  refine con Try.func116 ?_
  refine ⟨fun h => ?_, fun h => ?_⟩ <;> simp only [decide_eq_true_eq, decide_eq_false_iff_not] at h
  · refine ⟨[.ro, .ro, .ro], gS m (writeV m p.pos v), [none, none, none], spec_WriteW m p.pos v hm, trivial, ?_⟩
    rw [stoV, if_pos h]
    exact ⟨.refl _, trivial⟩
  · have h0 : 0 ≤ p.reg ∧ p.reg ≤ 7 ∧ p.pos = -1 := by rcases hp with h1 | h1 <;> omega
    have hrow := reg_row hm (i := p.reg) h0.1 (by omega)
    have hlt : p.reg < ((GInt.ros m.r).length : Int) := by rw [regs_len hm]; omega
    refine ⟨[.ro], .agg (GMach.ow m), [none], spec_l5Copy m hm.fit, trivial, ?_⟩
    refine ⟨[.ro, .ro, .ro], .tt, [none, none, none], (by rw [e]; have c := spec_l1In p.reg 0 7; rw [inI_true.2 ⟨h0.1, h0.2.1⟩] at c; exact .nbr rfl c), trivial, fun h2 => ?_, fun _ => ?_⟩
    · rw [h0.2.2] at h2; cases h2
    refine ⟨[.ro], .int .i64 (wr16 v), [none], spec_Wrap v, trivial, h0.1, hlt, _, hrow, by kernel_rfl, ?_⟩
    rw [stoV, if_neg h]
    exact ⟨.of_eq (congrArg (fun x => AV.tup [.agg x, .bool true]) (mach_ow m _ _ (setR m p.reg (wr16 v)) rfl (reg_set m p.reg _))), trivial⟩
/-- What a method of the machine does: it answers, and what stands after it when it succeeds. -/
def MethC (f : FuncId) (m : GMach) (args : List AV) (r : Option GMach) : Prop := ∃ m' : GMach, (∀ x, r = some x → x = m') ∧ Con f (.pb (GMach.ow m) :: args) (.bool r.isSome) (some (.pb (GMach.ow m')) :: args.map fun _ => none)
def pre1 (i : Nat) : Option (Nat × TypeId) := bif Nat.beq i 1 then some (0, 32) else none
theorem impl_put (m : GMach) (p : GPlace) (v : Int) (hm : RightM m) (hp : PlaceR p) : MethC 88 m [.agg (GPlace.ro p), .int .i64 v] (stoV m p v) := by
  have c := impl_Store m p v hm hp
  refine ⟨(stoV m p v).getD m, fun x hx => (by rw [hx]; rfl), ?_⟩
  refine conI [] pre1 (fun _ => false) Try.func88 (fun _ h => by cases h) ?_
  refine ⟨[.ro, .ro, .ro], gS m (stoV m p v), [none, none, none], (by rw [mach_toRo]; exact c), ⟨⟨GMach.noRo_ow _, trivial, trivial⟩, trivial⟩, by kernel_rfl, ?_⟩
  exact ⟨.refl _, .refl _, trivial⟩
theorem spec_l7Put (m : GMach) (p : GPlace) (v : Int) (hm : RightM m) (hp : PlaceR p) : MethC 110 m [.agg (GPlace.ro p), .int .i64 v] (stoV m p v) := by
  have c := spec_Store m p v hm hp
  refine ⟨(stoV m p v).getD m, fun x hx => (by rw [hx]; rfl), ?_⟩
  refine conI [] pre1 (fun _ => false) Try.func110 (fun _ h => by cases h) ?_
  cases hv : stoV m p v with
  | none =>
    rw [hv] at c
    refine ⟨[.ro, .ro, .ro], .tup [.agg (GMach.ow m), .ff], [none, none, none], (by rw [mach_toRo]; exact .nbr rfl c), ⟨⟨GMach.noRo_ow _, trivial, trivial⟩, trivial⟩, by kernel_rfl, ?_⟩
    exact ⟨.refl _, .refl _, trivial⟩
  | some m' =>
    rw [hv] at c
    refine ⟨[.ro, .ro, .ro], .tup [.agg (GMach.ow m'), .tt], [none, none, none], (by rw [mach_toRo]; exact .nbr rfl c), ⟨⟨GMach.noRo_ow _, trivial, trivial⟩, trivial⟩, by kernel_rfl, ?_⟩
    exact ⟨.refl _, .refl _, trivial⟩
end Go.Proofs.VI
