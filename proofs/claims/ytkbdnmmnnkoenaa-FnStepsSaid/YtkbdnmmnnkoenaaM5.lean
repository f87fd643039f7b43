/- Contracts of functions, and what they rest on: l06addr. -/
import Derived.Test.YtkbdnmmnnkoenaaM4
set_option linter.unusedVariables false
set_option linter.unusedSimpArgs false
set_option maxRecDepth 10000
set_option maxHeartbeats 4000000
namespace Go.Proofs.VI
open Go
def readR (m : GMach) (i : Int) : Int := m.r.getD i.toNat 0
def setR (m : GMach) (i : Int) (v : Int) : GMach := { m with r := m.r.set i.toNat v }
def writeV (m : GMach) (a v : Int) : Option GMach := if adr a = true ∧ a / 2 < m.mem.length then some { m with mem := m.mem.set (a / 2).toNat (wr16 v) } else none
theorem wr16_in (n : Int) : 0 ≤ wr16 n ∧ wr16 n ≤ 65535 := by rw [wr16]; omega
theorem RightM.fit {m : GMach} (h : RightM m) : GMach.fit m := by
  obtain ⟨a, b, c, d, e, f, g, i, j⟩ := h
  exact GMach.fit_mk ⟨⟨by omega, fun _ _ => trivial⟩, ⟨by omega, fun _ _ => trivial⟩, ⟨by omega, fun _ _ => trivial⟩, ⟨by omega, fun _ _ => trivial⟩⟩
theorem RightM.reg {m : GMach} (h : RightM m) (i : Int) : 0 ≤ readR m i ∧ readR m i ≤ 65535 := by
  rw [readR, List.getD_eq_getElem?_getD]
  cases e : m.r[i.toNat]? with
  | none => simp
  | some x => exact h.wr x (List.mem_of_getElem? e)
theorem wordsP_set {l : List Int} (h : wordsP l) (i : Nat) {v : Int} (hv : 0 ≤ v ∧ v ≤ 65535) : wordsP (l.set i v) := fun x hx => by
  rcases List.mem_or_eq_of_mem_set hx with h1 | h1
  · exact h x h1
  · subst h1; exact hv
theorem RightM.setR {m : GMach} (h : RightM m) (i : Int) {v : Int} (hv : 0 ≤ v ∧ v ≤ 65535) : RightM (setR m i v) :=
  ⟨h.mem, by show (m.r.set i.toNat v).length = 8; simp [h.r], h.inp, h.out, h.wm, wordsP_set h.wr _ hv, h.wi, h.wo, h.st⟩
theorem RightM.write {m m' : GMach} (h : RightM m) {a v : Int} (hw : writeV m a v = some m') : RightM m' := by
  rw [writeV] at hw
  split at hw
  · injection hw with hw; subst hw
    exact ⟨by show (m.mem.set _ _).length = 256; simp [h.mem], h.r, h.inp, h.out, wordsP_set h.wm _ (wr16_in v), h.wr, h.wi, h.wo, h.st⟩
  · cases hw
theorem RightM.read {m : GMach} (h : RightM m) {a n : Int} (hr : readV m a = some n) : 0 ≤ n ∧ n ≤ 65535 := by
  rw [readV] at hr
  split at hr
  · injection hr with hr; subst hr
    rw [List.getD_eq_getElem?_getD]
    cases e : m.mem[(a / 2).toNat]? with
    | none => simp
    | some x => exact h.wm x (List.mem_of_getElem? e)
  · cases hr
theorem reg_row {m : GMach} (h : RightM m) {i : Int} (h0 : 0 ≤ i) (h1 : i < 8) : (GInt.ros m.r)[i.toNat]? = some [.int .i64 (readR m i)] := by
  have hi : i.toNat < m.r.length := by rw [h.r]; omega
  rw [int_row hi, readR, getD_at hi]; rfl
theorem regs_len {m : GMach} (h : RightM m) : ((GInt.ros m.r).length : Int) = 8 := by simp [h.r]
theorem reg_set (m : GMach) (i : Int) (v : Int) : (GInt.ros m.r).set i.toNat [.int .i64 v] = GInt.ros (setR m i v).r := by
  rw [GInt.ros_eq, GInt.ros_eq, setR, List.map_set]; rfl
theorem mach_toRo (m : GMach) : [AV.ro 1 (toRoRows (GInt.ows m.mem)), .ro 1 (toRoRows (GInt.ows m.r)), .bool m.n, .bool m.z, .bool m.v, .bool m.c, .ro 1 (toRoRows (GInt.ows m.inp)), .ro 1 (toRoRows (GInt.ows m.out)), .int .i64 m.stop] = GMach.ro m := by
  simp only [GInt.roo]; rfl
theorem pbR (m : GMach) (rows : List (List AV)) (m' : GMach) (h : rows = GInt.ros m'.r) (he : m' = { m with r := m'.r } := by rfl) : AV.pb [.ow 1 (GInt.ows m.mem), .ow 1 rows, .bool m.n, .bool m.z, .bool m.v, .bool m.c, .ow 1 (GInt.ows m.inp), .ow 1 (GInt.ows m.out), .int .i64 m.stop] = .pb (GMach.ow m') := by
  subst h
  rw [he]; rfl
def fetchV (m : GMach) : Option (Int × GMach) := match readV m (readR m 7) with
  | some n => some (n, setR m 7 (wr16 (readR m 7 + 2)))
  | none => none
theorem spec_l6Fetch (m : GMach) (hm : RightM m) : Con 115 [.pb (GMach.ow m)] (.tup [.int .i64 ((fetchV m).map Prod.fst |>.getD 0), .bool (fetchV m).isSome]) [some (.pb (GMach.ow ((fetchV m).map Prod.snd |>.getD m)))] := by
  refine conI [] (fun i => bif Nat.beq i 1 then some (0, 32) else none) (fun _ => false) Try.func115 (fun _ h => by cases h) ?_
  have h7 := regs_len hm
  have r7 := reg_row hm (i := 7) (by decide) (by decide)
  have b7 := hm.reg 7
  have c := spec_ReadW m (readR m 7) (by rw [hm.mem]; decide)
  have w7 : IntKind.wrap .i64 (readR m 7 + 2) = readR m 7 + 2 := w64 (by omega) (by omega)
  cases hr : readV m (readR m 7) with
  | none =>
    have e : fetchV m = none := by rw [fetchV, hr]
    rw [hr] at c
    rw [e]
    refine ⟨by decide, by rw [h7]; decide, _, r7, [.ro, .ro], .tup [.int .i64 0, .ff], [none, none], (by rw [mach_toRo]; exact .nbr rfl c), ⟨⟨trivial, trivial, trivial⟩, trivial⟩, by kernel_rfl, ?_⟩
    exact ⟨.refl _, .refl _, trivial⟩
  | some n =>
    have e : fetchV m = some (n, setR m 7 (wr16 (readR m 7 + 2))) := by rw [fetchV, hr]
    rw [hr] at c
    rw [e]
    refine ⟨by decide, by rw [h7]; decide, _, r7, [.ro, .ro], .tup [.int .i64 n, .tt], [none, none], (by rw [mach_toRo]; exact .nbr rfl c), ⟨⟨trivial, trivial, trivial⟩, trivial⟩, by kernel_rfl, ?_⟩
    refine ⟨by decide, by rw [h7]; decide, _, r7, [.ro], .int .i64 (wr16 (readR m 7 + 2)), [none], (by rw [w7]; exact spec_Wrap _), trivial, by decide, by rw [h7]; decide, _, r7, by kernel_rfl, .refl _, .of_eq (pbR m _ _ (reg_set m 7 _)), trivial⟩
def atS (m : GMach) (o : GOpd) : Int × Bool × GMach :=
  if o.mode = 1 then (readR m o.reg, true, m) else if o.mode = 2 ∨ o.mode = 3 then (readR m o.reg, true, setR m o.reg (wr16 (readR m o.reg + 2)))
  else if o.mode = 4 ∨ o.mode = 5 then (wr16 (readR m o.reg - 2), true, setR m o.reg (wr16 (readR m o.reg - 2)))
  else match fetchV m with
    | some (n, m') => (wr16 (n + readR m' o.reg), true, m')
    | none => (wr16 (0 + readR m o.reg), false, m)
theorem readR_set {m : GMach} (h : RightM m) {i v : Int} (h0 : 0 ≤ i) (h1 : i < 8) : readR (setR m i v) i = v := by
  have hi : i.toNat < m.r.length := by rw [h.r]; omega
  simp [readR, setR, hi]
theorem fetchV_right {m m' : GMach} {n : Int} (h : RightM m) (hf : fetchV m = some (n, m')) : RightM m' ∧ 0 ≤ n ∧ n ≤ 65535 := by
  rw [fetchV] at hf
  split at hf
  · rename_i x hx
    injection hf with hf
    injection hf with h1 h2
    subst h1 h2
    exact ⟨h.setR 7 (wr16_in _), h.read hx⟩
  · cases hf
theorem spec_l6At (m : GMach) (o : GOpd) (hm : RightM m) (ho : 0 ≤ o.reg ∧ o.reg ≤ 7) : Con 108 [.pb (GMach.ow m), .agg (GOpd.ro o)] (.tup [.int .i64 (atS m o).1, .bool (atS m o).2.1]) [some (.pb (GMach.ow (atS m o).2.2)), none] := by
  refine conI [] (fun i => bif Nat.beq i 3 || (Nat.beq i 6 || (Nat.beq i 11 || Nat.beq i 14)) then some (0, 32) else none) (fun _ => false) Try.func108 (fun _ h => by cases h) ?_
  have hl := regs_len hm
  have hr := reg_row hm (i := o.reg) ho.1 (by omega)
  have hb := hm.reg o.reg
  have wp : IntKind.wrap .i64 (readR m o.reg + 2) = readR m o.reg + 2 := w64 (by omega) (by omega)
  have wm : IntKind.wrap .i64 (readR m o.reg - 2) = readR m o.reg - 2 := w64 (by omega) (by omega)
  have hs := reg_set m o.reg (wr16 (readR m o.reg + 2))
  have hs2 := reg_set m o.reg (wr16 (readR m o.reg - 2))
  have hm' : RightM (setR m o.reg (wr16 (readR m o.reg - 2))) := hm.setR _ (wr16_in _)
  have hl' := regs_len hm'
  have hr' := reg_row hm' (i := o.reg) ho.1 (by omega)
  rw [readR_set hm ho.1 (by omega)] at hr'
  rw [← hs2] at hl' hr'
  refine ⟨fun h1 => ?_, fun h1 => ⟨fun h2 => ?_, fun h2 => ⟨fun h3 => ?_, fun h3 => ⟨fun h4 => ?_, fun h4 => ⟨fun h5 => ?_, fun h5 => ?_⟩⟩⟩⟩⟩ <;> simp only [decide_eq_true_eq, decide_eq_false_iff_not] at *
  · rw [atS, if_pos h1]
    exact ⟨ho.1, by rw [hl]; omega, _, hr, by kernel_rfl, .refl _, .refl _, trivial⟩
  · rw [atS, if_neg h1, if_pos (.inl h2)]
    refine ⟨ho.1, by rw [hl]; omega, _, hr, by kernel_rfl, ?_⟩
    exact ⟨[.ro], .int .i64 (wr16 (readR m o.reg + 2)), [none], (by rw [wp]; exact spec_Wrap _), trivial, ho.1, by rw [hl]; omega, _, hr, by kernel_rfl, .refl _, .of_eq (pbR m _ _ hs), trivial⟩
  · rw [atS, if_neg h1, if_pos (.inr h3)]
    refine ⟨ho.1, by rw [hl]; omega, _, hr, by kernel_rfl, ?_⟩
    exact ⟨[.ro], .int .i64 (wr16 (readR m o.reg + 2)), [none], (by rw [wp]; exact spec_Wrap _), trivial, ho.1, by rw [hl]; omega, _, hr, by kernel_rfl, .refl _, .of_eq (pbR m _ _ hs), trivial⟩
  · have e : atS m o = (wr16 (readR m o.reg - 2), true, setR m o.reg (wr16 (readR m o.reg - 2))) := by
      unfold atS
      rw [if_neg h1, if_neg (by omega), if_pos (.inl h4)]
    rw [e]
    refine ⟨ho.1, by rw [hl]; omega, _, hr, [.ro], .int .i64 (wr16 (readR m o.reg - 2)), [none], (by rw [wm]; exact spec_Wrap _), trivial, ho.1, by rw [hl]; omega, _, hr, by kernel_rfl, ?_⟩
    exact ⟨ho.1, by rw [hl']; omega, _, hr', by kernel_rfl, .refl _, .of_eq (pbR m _ _ hs2), trivial⟩
  · have e : atS m o = (wr16 (readR m o.reg - 2), true, setR m o.reg (wr16 (readR m o.reg - 2))) := by
      unfold atS
      rw [if_neg h1, if_neg (by omega), if_pos (.inr h5)]
    rw [e]
    refine ⟨ho.1, by rw [hl]; omega, _, hr, [.ro], .int .i64 (wr16 (readR m o.reg - 2)), [none], (by rw [wm]; exact spec_Wrap _), trivial, ho.1, by rw [hl]; omega, _, hr, by kernel_rfl, ?_⟩
    exact ⟨ho.1, by rw [hl']; omega, _, hr', by kernel_rfl, .refl _, .of_eq (pbR m _ _ hs2), trivial⟩
  · have c := spec_l6Fetch m hm
    cases hf : fetchV m with
    | none =>
      rw [hf] at c
      have e : atS m o = (wr16 (0 + readR m o.reg), false, m) := by
        unfold atS
        rw [if_neg h1, if_neg (by omega), if_neg (by omega), hf]
      rw [e]
      refine ⟨[.mut], .tup [.int .i64 0, .ff], [some (.pb (GMach.ow m))], c, trivial, ?_⟩
      refine ⟨ho.1, by rw [hl]; omega, _, hr, [.ro], .int .i64 (wr16 (0 + readR m o.reg)), [none], (by rw [w64 (by omega) (by omega)]; exact spec_Wrap _), trivial, by kernel_rfl, .refl _, .refl _, trivial⟩
    | some p =>
      obtain ⟨n, m'⟩ := p
      obtain ⟨hm', hn⟩ := fetchV_right hm hf
      have hl' := regs_len hm'
      have hr' := reg_row hm' (i := o.reg) ho.1 (by omega)
      have hb' := hm'.reg o.reg
      have wp' : IntKind.wrap .i64 (n + readR m' o.reg) = n + readR m' o.reg := w64 (by omega) (by omega)
      rw [hf] at c
      have e : atS m o = (wr16 (n + readR m' o.reg), true, m') := by
        unfold atS
        rw [if_neg h1, if_neg (by omega), if_neg (by omega), hf]
      rw [e]
      refine ⟨[.mut], .tup [.int .i64 n, .tt], [some (.pb (GMach.ow m'))], c, trivial, ?_⟩
      exact ⟨ho.1, by rw [hl']; omega, _, hr', [.ro], .int .i64 (wr16 (n + readR m' o.reg)), [none], (by rw [wp']; exact spec_Wrap _), trivial, by kernel_rfl, .refl _, .refl _, trivial⟩
end Go.Proofs.VI
