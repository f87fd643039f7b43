/- Contracts of functions, and what they rest on: l05mach. -/
import Derived.Test.YtkbdnmmnnkoenaaM2
set_option linter.unusedVariables false
set_option linter.unusedSimpArgs false
set_option maxRecDepth 10000
set_option maxHeartbeats 4000000
namespace Go.Proofs.VI
open Go
structure RightM (m : GMach) : Prop where
  mem : m.mem.length = 256
  r : m.r.length = 8
  inp : m.inp.length ≤ 50
  out : m.out.length ≤ 50
  wm : wordsP m.mem
  wr : wordsP m.r
  wi : wordsP m.inp
  wo : wordsP m.out
  st : 0 ≤ m.stop ∧ m.stop ≤ 2
noncomputable def machE (m : GMach) : Bool := dec (RightM m)
theorem machE_eq (m : GMach) : machE m = (decide ((m.mem.length : Int) = 256) && (decide ((m.r.length : Int) = 8) && (decide ((m.inp.length : Int) ≤ 50) && (decide ((m.out.length : Int) ≤ 50) && (wordsB m.mem && (wordsB m.r && (wordsB m.inp && (wordsB m.out && inI m.stop 0 2)))))))) := by
  have hd : ∀ p : Prop, dec p = true ↔ p := fun p => ⟨fun h => Classical.byContradiction fun hp => (by rw [dec_false hp] at h; cases h), dec_true⟩
  rw [Bool.eq_iff_iff]
  simp only [machE, Bool.and_eq_true, decide_eq_true_eq, wordsB, hd, inI_true]
  constructor
  · rintro ⟨a, b, c, d, e, f, g, h, i⟩; exact ⟨by omega, by omega, by omega, by omega, e, f, g, h, i⟩
  · rintro ⟨a, b, c, d, e, f, g, h, i⟩; exact ⟨by omega, by omega, by omega, by omega, e, f, g, h, i⟩
def adr (a : Int) : Bool := inI a 0 510 && decide (a % 2 = 0)
def readV (m : GMach) (a : Int) : Option Int := if adr a = true ∧ a / 2 < m.mem.length then some (m.mem.getD (a / 2).toNat 0) else none
def gR (x : Option Int) : AV := .tup [.int .i64 (x.getD 0), .bool x.isSome]
theorem tmod2 {a : Int} (h : 0 ≤ a) : a.tmod 2 = a % 2 := Int.tmod_eq_emod_of_nonneg h
theorem tdiv2 {a : Int} (h : 0 ≤ a) : a.tdiv 2 = a / 2 := Int.tdiv_eq_ediv_of_nonneg h
theorem impl_isAddr (a : Int) : Con 37 [.int .i64 a] (.bool (adr a)) [none] := by
  refine con Try.func37 ?_
  refine ⟨[.ro, .ro, .ro], .bool (inI a 0 510), [none, none, none], impl_within a 0 510, trivial, fun h => ⟨by decide, .of_eq (congrArg AV.bool ?_), trivial⟩, fun h => ⟨.of_eq (congrArg AV.bool ?_), trivial⟩⟩
  · rw [adr, h, tmod2 (inI_true.1 h).1]; rfl
  · rw [adr, h]; rfl
theorem impl_ReadW (m : GMach) (a : Int) (hl : m.mem.length ≤ 1099511627776) : Con 85 [.agg (GMach.ro m), .int .i64 a] (gR (readV m a)) [none, none] := by
  have hlen : (GInt.ros m.mem).length = m.mem.length := by simp
  refine con Try.func85 ?_
  refine ⟨[.ro], .bool (adr a), [none], impl_isAddr a, trivial, fun h => ⟨by decide, fun h2 => ⟨?_, trivial⟩, fun h2 => ?_⟩, fun h => ⟨?_, trivial⟩⟩ <;> simp only [Bool.not_eq_true', Bool.not_eq_false'] at h
  · have h0 := (inI_true.1 (by simp only [adr, Bool.and_eq_true] at h; exact h.1))
    have e : IntKind.wrap .i64 (a.tdiv 2) = a / 2 := by rw [tdiv2 h0.1]; exact w64 (by omega) (by omega)
    rw [e, hlen] at h2
    rw [readV, if_neg (by rintro ⟨_, h3⟩; simp at h2; omega)]; exact .refl _
  · have h0 := (inI_true.1 (by simp only [adr, Bool.and_eq_true] at h; exact h.1))
    have e : IntKind.wrap .i64 (a.tdiv 2) = a / 2 := by rw [tdiv2 h0.1]; exact w64 (by omega) (by omega)
    rw [e, hlen] at h2
    have h3 : a / 2 < m.mem.length := by simp at h2; omega
    have hi : (a / 2).toNat < m.mem.length := by omega
    have hrow : (GInt.ros m.mem)[(IntKind.wrap .i64 (a.tdiv 2)).toNat]? = some [.int .i64 (m.mem.getD (a / 2).toNat 0)] := by rw [e, int_row hi, getD_at hi]; rfl
    refine ⟨by decide, by rw [e]; omega, _, hrow, .of_eq ?_, trivial⟩
    rw [readV, if_pos ⟨h, h3⟩]; rfl
  · rw [readV, if_neg (by rw [h]; simp)]; exact .refl _
theorem spec_ReadW (m : GMach) (a : Int) (hl : m.mem.length ≤ 1099511627776) : Con 75 [.agg (GMach.ro m), .int .i64 a] (gR (readV m a)) [none, none] := by
  have hlen : (GInt.ros m.mem).length = m.mem.length := by simp
  refine con Try.func75 ?_
  refine ⟨[.ro, .ro, .ro], .bool (inI a 0 510), [none, none, none], spec_l1In a 0 510, trivial, fun h => ⟨by decide, fun h1 => ⟨by decide, fun h2 => ⟨?_, trivial⟩, fun h2 => ?_⟩, fun h1 => ⟨?_, trivial⟩⟩, fun h => ⟨?_, trivial⟩⟩ <;> simp only [Bool.not_eq_true', Bool.not_eq_false'] at h
  · have h0 := inI_true.1 h
    have e : IntKind.wrap .i64 (a.tdiv 2) = a / 2 := by rw [tdiv2 h0.1]; exact w64 (by omega) (by omega)
    rw [e, hlen] at h2
    rw [readV, if_neg (by rintro ⟨_, h3⟩; simp at h2; omega)]; exact .refl _
  · have h0 := inI_true.1 h
    have e : IntKind.wrap .i64 (a.tdiv 2) = a / 2 := by rw [tdiv2 h0.1]; exact w64 (by omega) (by omega)
    rw [e, hlen] at h2
    rw [tmod2 h0.1] at h1
    have h3 : a / 2 < m.mem.length := by simp at h2; omega
    have hi : (a / 2).toNat < m.mem.length := by omega
    have hrow : (GInt.ros m.mem)[(IntKind.wrap .i64 (a.tdiv 2)).toNat]? = some [.int .i64 (m.mem.getD (a / 2).toNat 0)] := by rw [e, int_row hi, getD_at hi]; rfl
    refine ⟨by decide, by rw [e]; omega, _, hrow, .of_eq ?_, trivial⟩
    rw [readV, if_pos ⟨by rw [adr, h]; simpa using h1, h3⟩]; rfl
  · have h0 := inI_true.1 h
    rw [tmod2 h0.1] at h1
    rw [readV, if_neg (by rintro ⟨h3, _⟩; rw [adr, h] at h3; simp at h1 h3; omega)]; exact .refl _
  · rw [readV, if_neg (by rw [adr, h]; simp)]; exact .refl _
theorem impl_MachOk (m : GMach) (fm : GMach.fit m) : Con 31 [.agg (GMach.ro m)] (.bool (machE m)) [none] := by
  obtain ⟨f1, f2, f3, f4⟩ := GMach.fit_un fm
  have l1 : (GInt.ros m.mem).length = m.mem.length := by simp
  have l2 : (GInt.ros m.r).length = m.r.length := by simp
  have l3 : (GInt.ros m.inp).length = m.inp.length := by simp
  have l4 : (GInt.ros m.out).length = m.out.length := by simp
  refine con Try.func31 ?_
  rw [machE_eq]
  repeat' (first | refine And.intro (fun (h : _ = true) => ?_) (fun (h : _ = false) => ?_) | refine And.intro (fun (h : _ = false) => ?_) (fun (h : _ = true) => ?_) | refine And.intro (show regOk _ _ = true from by kernel_rfl) ?_ | refine And.intro (Sim.of_eq (congrArg AV.bool ?_)) trivial | refine ⟨[.ro], .bool _, [none], impl_wordsOk m.mem f1.1, (by first | exact trivial | exact ⟨trivial, trivial⟩ | exact ⟨GByte.nro _, trivial⟩ | exact ⟨GExpr.noRo_ow _, trivial⟩ | exact ⟨GExpr.nro _, trivial⟩ | exact ⟨GInt.nro _, trivial⟩ | exact ⟨GString.nro _, trivial⟩), ?_⟩ | refine ⟨[.ro], .bool _, [none], impl_wordsOk m.r f2.1, (by first | exact trivial | exact ⟨trivial, trivial⟩ | exact ⟨GByte.nro _, trivial⟩ | exact ⟨GExpr.noRo_ow _, trivial⟩ | exact ⟨GExpr.nro _, trivial⟩ | exact ⟨GInt.nro _, trivial⟩ | exact ⟨GString.nro _, trivial⟩), ?_⟩ | refine ⟨[.ro], .bool _, [none], impl_wordsOk m.inp f3.1, (by first | exact trivial | exact ⟨trivial, trivial⟩ | exact ⟨GByte.nro _, trivial⟩ | exact ⟨GExpr.noRo_ow _, trivial⟩ | exact ⟨GExpr.nro _, trivial⟩ | exact ⟨GInt.nro _, trivial⟩ | exact ⟨GString.nro _, trivial⟩), ?_⟩ | refine ⟨[.ro], .bool _, [none], impl_wordsOk m.out f4.1, (by first | exact trivial | exact ⟨trivial, trivial⟩ | exact ⟨GByte.nro _, trivial⟩ | exact ⟨GExpr.noRo_ow _, trivial⟩ | exact ⟨GExpr.nro _, trivial⟩ | exact ⟨GInt.nro _, trivial⟩ | exact ⟨GString.nro _, trivial⟩), ?_⟩ | refine ⟨[.ro, .ro, .ro], .bool _, [none, none, none], impl_within m.stop 0 2, (by first | exact trivial | exact ⟨trivial, trivial⟩ | exact ⟨GByte.nro _, trivial⟩ | exact ⟨GExpr.noRo_ow _, trivial⟩ | exact ⟨GExpr.nro _, trivial⟩ | exact ⟨GInt.nro _, trivial⟩ | exact ⟨GString.nro _, trivial⟩), ?_⟩ | fail)
  all_goals simp only [l1, l2, l3, l4] at *
  all_goals clear f1 f2 f3 f4 fm l1 l2 l3 l4
  all_goals simp_all
  all_goals (intros; omega)
theorem spec_MachOk (m : GMach) (fm : GMach.fit m) : Con 30 [.agg (GMach.ro m)] (.bool (machE m)) [none] := by
  obtain ⟨f1, f2, f3, f4⟩ := GMach.fit_un fm
  have l1 : (GInt.ros m.mem).length = m.mem.length := by simp
  have l2 : (GInt.ros m.r).length = m.r.length := by simp
  have l3 : (GInt.ros m.inp).length = m.inp.length := by simp
  have l4 : (GInt.ros m.out).length = m.out.length := by simp
  refine con Try.func30 ?_
  rw [machE_eq]
  repeat' (first | refine And.intro (fun (h : _ = true) => ?_) (fun (h : _ = false) => ?_) | refine And.intro (fun (h : _ = false) => ?_) (fun (h : _ = true) => ?_) | refine And.intro (show regOk _ _ = true from by kernel_rfl) ?_ | refine And.intro (Sim.of_eq (congrArg AV.bool ?_)) trivial | refine ⟨[.ro], .bool _, [none], spec_l5Words m.mem f1.1, (by first | exact trivial | exact ⟨trivial, trivial⟩ | exact ⟨GByte.nro _, trivial⟩ | exact ⟨GExpr.noRo_ow _, trivial⟩ | exact ⟨GExpr.nro _, trivial⟩ | exact ⟨GInt.nro _, trivial⟩ | exact ⟨GString.nro _, trivial⟩), ?_⟩ | refine ⟨[.ro], .bool _, [none], spec_l5Words m.r f2.1, (by first | exact trivial | exact ⟨trivial, trivial⟩ | exact ⟨GByte.nro _, trivial⟩ | exact ⟨GExpr.noRo_ow _, trivial⟩ | exact ⟨GExpr.nro _, trivial⟩ | exact ⟨GInt.nro _, trivial⟩ | exact ⟨GString.nro _, trivial⟩), ?_⟩ | refine ⟨[.ro], .bool _, [none], spec_l5Words m.inp f3.1, (by first | exact trivial | exact ⟨trivial, trivial⟩ | exact ⟨GByte.nro _, trivial⟩ | exact ⟨GExpr.noRo_ow _, trivial⟩ | exact ⟨GExpr.nro _, trivial⟩ | exact ⟨GInt.nro _, trivial⟩ | exact ⟨GString.nro _, trivial⟩), ?_⟩ | refine ⟨[.ro], .bool _, [none], spec_l5Words m.out f4.1, (by first | exact trivial | exact ⟨trivial, trivial⟩ | exact ⟨GByte.nro _, trivial⟩ | exact ⟨GExpr.noRo_ow _, trivial⟩ | exact ⟨GExpr.nro _, trivial⟩ | exact ⟨GInt.nro _, trivial⟩ | exact ⟨GString.nro _, trivial⟩), ?_⟩ | refine ⟨[.ro, .ro, .ro], .bool _, [none, none, none], spec_l1In m.stop 0 2, (by first | exact trivial | exact ⟨trivial, trivial⟩ | exact ⟨GByte.nro _, trivial⟩ | exact ⟨GExpr.noRo_ow _, trivial⟩ | exact ⟨GExpr.nro _, trivial⟩ | exact ⟨GInt.nro _, trivial⟩ | exact ⟨GString.nro _, trivial⟩), ?_⟩ | fail)
  all_goals simp only [l1, l2, l3, l4] at *
  all_goals clear f1 f2 f3 f4 fm l1 l2 l3 l4
  all_goals simp_all
  all_goals (intros; omega)
theorem impl_copyInts (l : List Int) (hl : l.length ≤ 1099511627776) : Con 40 [.ro 1 (GInt.ros l)] (.ow 1 (GInt.ows l)) [none] := by
  refine con Try.func40 ?_
  refine ⟨trivial, ?_, int_plain l, .refl _, trivial⟩
  show (0 + (GInt.ros l).length) * 8 ≤ _
  simp; omega
theorem impl_copyMach (m : GMach) (fm : GMach.fit m) : Con 41 [.agg (GMach.ro m)] (.agg (GMach.ow m)) [none] := by
  obtain ⟨f1, f2, f3, f4⟩ := GMach.fit_un fm
  refine con Try.func41 ?_
  refine ⟨[.ro], .ow 1 (GInt.ows m.mem), [none], impl_copyInts m.mem f1.1, trivial, ?_⟩
  refine ⟨[.ro], .ow 1 (GInt.ows m.r), [none], impl_copyInts m.r f2.1, trivial, ?_⟩
  refine ⟨[.ro], .ow 1 (GInt.ows m.inp), [none], impl_copyInts m.inp f3.1, trivial, ?_⟩
  refine ⟨[.ro], .ow 1 (GInt.ows m.out), [none], impl_copyInts m.out f4.1, trivial, by kernel_rfl, .refl _, trivial⟩
theorem spec_l5Copy (m : GMach) (fm : GMach.fit m) : Con 46 [.agg (GMach.ro m)] (.agg (GMach.ow m)) [none] := by
  obtain ⟨f1, f2, f3, f4⟩ := GMach.fit_un fm
  have z : ∀ l : List Int, l.length ≤ 1099511627776 → (0 + (GInt.ros l).length) * 8 ≤ 140737488355328 := fun l h => by simp; omega
  refine con Try.func46 ?_
  exact ⟨trivial, z _ f1.1, int_plain _, trivial, z _ f2.1, int_plain _, trivial, z _ f3.1, int_plain _, trivial, z _ f4.1, int_plain _, .refl _, trivial⟩
end Go.Proofs.VI
