/- Contracts of functions, and what they rest on: marktext marks2 markss. -/
import Derived.Test.YtkbdnmmnnkoenaaD2
set_option linter.unusedVariables false
set_option linter.unusedSimpArgs false
set_option maxRecDepth 10000
set_option maxHeartbeats 4000000
namespace Go.Proofs.VI
open Go
def GInt.mark (_ : GInt) (k : Int) : GInt := k
def GInt.w (_ : GInt) : Nat := 1
def GByte.mark (_ : GByte) (k : Int) : GByte := UInt8.ofNat (k.toNat % 256)
def GByte.w (_ : GByte) : Nat := 1
def GString.mark (_ : GString) (k : Int) : GString := mtext k
def GString.w (_ : GString) : Nat := 1
def GOpd.mark (a : GOpd) (k : Int) : GOpd := ⟨k, k + 1, k + 1 + 1⟩
def GOpd.w (_ : GOpd) : Nat := 1 + 1 + 1
def GToken.mark (a : GToken) (k : Int) : GToken := ⟨k, k + 1, mtext (k + 1 + 1)⟩
def GToken.w (_ : GToken) : Nat := 1 + 1 + 1
mutual
def GExpr.w : GExpr → Nat
  | .mk _ _ _ l => 3 + GExpr.wL l
def GExpr.wL : List GExpr → Nat
  | [] => 0
  | e :: l => GExpr.w e + GExpr.wL l
end
theorem GExpr.wL_eq (l : List GExpr) : GExpr.wL l = cntS GExpr.w l := by
  induction l with
  | nil => rfl
  | cons e l ih => rw [GExpr.wL, cntS, ih]
mutual
def GExpr.mark : GExpr → Int → GExpr
  | .mk _ _ _ l, k => .mk (k) (k + 1) (mtext (k + 1 + 1)) (GExpr.markL l (k + 1 + 1 + 1))
def GExpr.markL : List GExpr → Int → List GExpr
  | [], _ => []
  | e :: l, k => GExpr.mark e k :: GExpr.markL l (k + GExpr.w e)
end
theorem GExpr.markL_eq (l : List GExpr) (k : Int) : GExpr.markL l k = markS GExpr.mark GExpr.w l k := by
  induction l generalizing k with
  | nil => rfl
  | cons e l ih => rw [GExpr.markL, markS, ih]
theorem GExpr.w_un (a : GExpr) : GExpr.w a = 3 + cntS GExpr.w a.l := by
  cases a; rw [GExpr.w, GExpr.wL_eq]; rfl
theorem GExpr.mark_un (a : GExpr) (k : Int) : GExpr.mark a k = .mk (k) (k + 1) (mtext (k + 1 + 1)) (markS GExpr.mark GExpr.w a.l (k + 1 + 1 + 1)) := by
  cases a; rw [GExpr.mark, GExpr.markL_eq]; rfl
def GSect.mark (a : GSect) (k : Int) : GSect := ⟨mtext (k), decide ((k + 1).tmod 3 = 0), markS GExpr.mark GExpr.w a.words (k + 1 + 1)⟩
def GSect.w (a : GSect) : Nat := 1 + 1 + cntS GExpr.w a.words
def GGlob.mark (a : GGlob) (k : Int) : GGlob := ⟨mtext (k), GExpr.mark a.e (k + 1)⟩
def GGlob.w (a : GGlob) : Nat := 1 + GExpr.w a.e
def GObj.mark (a : GObj) (k : Int) : GObj := ⟨markS GSect.mark GSect.w a.sects (k), markS GGlob.mark GGlob.w a.globs (k + ((cntS GSect.w a.sects : Nat) : Int))⟩
def GObj.w (a : GObj) : Nat := cntS GSect.w a.sects + cntS GGlob.w a.globs
def GLibMod.mark (a : GLibMod) (k : Int) : GLibMod := ⟨mtext (k), markS GByte.mark GByte.w a.b (k + 1)⟩
def GLibMod.w (a : GLibMod) : Nat := 1 + cntS GByte.w a.b
def GLib.mark (a : GLib) (k : Int) : GLib := ⟨markS GLibMod.mark GLibMod.w a.mods (k)⟩
def GLib.w (a : GLib) : Nat := cntS GLibMod.w a.mods
def GPlaced.mark (a : GPlaced) (k : Int) : GPlaced := ⟨k, k + 1, k + 1 + 1⟩
def GPlaced.w (_ : GPlaced) : Nat := 1 + 1 + 1
def GMach.mark (a : GMach) (k : Int) : GMach := ⟨markS GInt.mark GInt.w a.mem (k), markS GInt.mark GInt.w a.r (k + ((cntS GInt.w a.mem : Nat) : Int)), decide ((k + ((cntS GInt.w a.mem : Nat) : Int) + ((cntS GInt.w a.r : Nat) : Int)).tmod 3 = 0), decide ((k + ((cntS GInt.w a.mem : Nat) : Int) + ((cntS GInt.w a.r : Nat) : Int) + 1).tmod 3 = 0), decide ((k + ((cntS GInt.w a.mem : Nat) : Int) + ((cntS GInt.w a.r : Nat) : Int) + 1 + 1).tmod 3 = 0), decide ((k + ((cntS GInt.w a.mem : Nat) : Int) + ((cntS GInt.w a.r : Nat) : Int) + 1 + 1 + 1).tmod 3 = 0), markS GInt.mark GInt.w a.inp (k + ((cntS GInt.w a.mem : Nat) : Int) + ((cntS GInt.w a.r : Nat) : Int) + 1 + 1 + 1 + 1), markS GInt.mark GInt.w a.out (k + ((cntS GInt.w a.mem : Nat) : Int) + ((cntS GInt.w a.r : Nat) : Int) + 1 + 1 + 1 + 1 + ((cntS GInt.w a.inp : Nat) : Int)), k + ((cntS GInt.w a.mem : Nat) : Int) + ((cntS GInt.w a.r : Nat) : Int) + 1 + 1 + 1 + 1 + ((cntS GInt.w a.inp : Nat) : Int) + ((cntS GInt.w a.out : Nat) : Int)⟩
def GMach.w (a : GMach) : Nat := cntS GInt.w a.mem + cntS GInt.w a.r + 1 + 1 + 1 + 1 + cntS GInt.w a.inp + cntS GInt.w a.out + 1
abbrev GTokenS.w (x : GTokenS) : Nat := cntS GToken.w x
abbrev GTokenS.mark (x : GTokenS) (k : Int) : GTokenS := markS GToken.mark GToken.w x k
theorem modify_set_all {α : Type} (l : List α) (i : Nat) (f : α → α) (x : α) : (l.set i x).modify i f = l.set i (f x) := by
  rcases Nat.lt_or_ge i l.length with h | h
  · exact modify_set l i f x h
  · rw [List.set_eq_of_length_le h, List.set_eq_of_length_le h, List.modify_eq_self h]
theorem cnt_le {α : Type} (w : α → Nat) (l : List α) (i : Nat) (h : i < l.length) : w l[i] ≤ cntS w l := by
  have := cntS_take_succ w l i h
  have := cntS_take_le w l (i + 1)
  omega
theorem u8w {k : Int} (h : 0 ≤ k) : IntKind.wrap .u8 k = ((UInt8.ofNat (k.toNat % 256)).toNat : Int) := by
  have e : IntKind.wrap .u8 k = k % 256 := rfl
  rw [e, UInt8.toNat_ofNat']
  omega
theorem cnt4 {α : Type} (w b : α → Nat) (l : List α) (h : ∀ x ∈ l, w x ≤ 4 + 4 * b x) : cntS w l ≤ 4 * bulkS b l := by
  induction l with
  | nil => simp [cntS]
  | cons x l ih =>
    have := h x (by simp)
    have := ih fun y hy => h y (by simp [hy])
    simp only [cntS, bulkS]; omega
theorem GInt.w4 (a : GInt) : GInt.w a ≤ 4 + 4 * GInt.bulk a := by
  have : GInt.w a = 1 := rfl
  omega
theorem GByte.w4 (a : GByte) : GByte.w a ≤ 4 + 4 * GByte.bulk a := by
  have : GByte.w a = 1 := rfl
  omega
theorem GString.w4 (a : GString) : GString.w a ≤ 4 + 4 * GString.bulk a := by
  have : GString.w a = 1 := rfl
  omega
theorem GOpd.w4 (a : GOpd) : GOpd.w a ≤ 4 + 4 * GOpd.bulk a := by
  skip
  have h1 : GOpd.w a = 1 + 1 + 1 := rfl
  have h2 := GOpd.bulk_un a
  omega
theorem GToken.w4 (a : GToken) : GToken.w a ≤ 4 + 4 * GToken.bulk a := by
  skip
  have h1 : GToken.w a = 1 + 1 + 1 := rfl
  have h2 := GToken.bulk_un a
  omega
theorem GExpr.w3 : ∀ a : GExpr, GExpr.w a ≤ 3 + 4 * GExpr.bulk a := by
  refine GExpr.ind fun a ih => ?_
  have h1 := GExpr.w_un a
  have h2 := GExpr.bulk_un a
  have h3 := cnt4 GExpr.w GExpr.bulk a.l fun x hx => by have := ih x hx; omega
  omega
theorem GExpr.w4 (a : GExpr) : GExpr.w a ≤ 4 + 4 * GExpr.bulk a := by have := GExpr.w3 a; omega
theorem GSect.w4 (a : GSect) : GSect.w a ≤ 4 + 4 * GSect.bulk a := by
  have := cnt4 GExpr.w GExpr.bulk a.words fun y _ => GExpr.w4 y
  have h1 : GSect.w a = 1 + 1 + cntS GExpr.w a.words := rfl
  have h2 := GSect.bulk_un a
  omega
theorem GGlob.w4 (a : GGlob) : GGlob.w a ≤ 4 + 4 * GGlob.bulk a := by
  have := GExpr.w3 a.e
  have h1 : GGlob.w a = 1 + GExpr.w a.e := rfl
  have h2 := GGlob.bulk_un a
  omega
theorem GObj.w4 (a : GObj) : GObj.w a ≤ 4 + 4 * GObj.bulk a := by
  have := cnt4 GSect.w GSect.bulk a.sects fun y _ => GSect.w4 y
  have := cnt4 GGlob.w GGlob.bulk a.globs fun y _ => GGlob.w4 y
  have h1 : GObj.w a = cntS GSect.w a.sects + cntS GGlob.w a.globs := rfl
  have h2 := GObj.bulk_un a
  omega
theorem GLibMod.w4 (a : GLibMod) : GLibMod.w a ≤ 4 + 4 * GLibMod.bulk a := by
  have := cnt4 GByte.w GByte.bulk a.b fun y _ => GByte.w4 y
  have h1 : GLibMod.w a = 1 + cntS GByte.w a.b := rfl
  have h2 := GLibMod.bulk_un a
  omega
theorem GLib.w4 (a : GLib) : GLib.w a ≤ 4 + 4 * GLib.bulk a := by
  have := cnt4 GLibMod.w GLibMod.bulk a.mods fun y _ => GLibMod.w4 y
  have h1 : GLib.w a = cntS GLibMod.w a.mods := rfl
  have h2 := GLib.bulk_un a
  omega
theorem GPlaced.w4 (a : GPlaced) : GPlaced.w a ≤ 4 + 4 * GPlaced.bulk a := by
  skip
  have h1 : GPlaced.w a = 1 + 1 + 1 := rfl
  have h2 := GPlaced.bulk_un a
  omega
theorem GTokenS.w4 (a : GTokenS) : GTokenS.w a ≤ 4 + 4 * GTokenS.bulk a := by
  have := cnt4 GToken.w GToken.bulk a fun y _ => GToken.w4 y
  show cntS GToken.w a ≤ 4 + 4 * bulkS GToken.bulk a
  omega
theorem mark_IntS (l : List GInt) (k : Int) (h0 : 0 ≤ k) (hk : k + cntS GInt.w l ≤ 1152921504606846976) (hl : l.length ≤ 1099511627776) :
    Con 51 [.ow 1 (GInt.ows l), .int .i64 k] (.int .i64 (k + cntS GInt.w l)) [some (.ow 1 (GInt.ows (markS GInt.mark GInt.w l k))), none] := by
  simp only [GInt.ows_eq]
  refine con Try.func51 ?_
  refine ⟨{ i : Nat // i ≤ l.length }, fun i => ⟨[(0, .own 0), (1, .int .i64 (k + cntS GInt.w (l.take i.1))), (5, .int .i64 i.1)], [(0, .rows 1 ((marking GInt.mark GInt.w l k i.1).map GInt.ow) [])]⟩, fun i => l.length - i.1, ⟨0, by omega⟩, ?_, ?_⟩
  · refine ⟨congrArg (AV.int .i64) ?_, rfl, rfl, .of_eq ?_, trivial⟩
    · simp [cntS]
    · rw [marking_zero]
  · rintro ⟨i, hi⟩
    have hlen := marking_len GInt.mark GInt.w l k i hi
    have hlen2 : ((marking GInt.mark GInt.w l k i).map GInt.ow).length = l.length := by rw [List.length_map, hlen]
    dsimp only
    refine ⟨fun h => ?_, fun h => ?_⟩ <;> simp only [hlen2, decide_eq_true_eq, decide_eq_false_iff_not] at h
    · have hi : i < l.length := by omega
      have hc := cntS_take_succ GInt.w l i hi
      have hc2 := cntS_take_le GInt.w l (i + 1)
      have hw : GInt.w l[i] = 1 := rfl
      have e4 : IntKind.wrap .i64 ((i : Int) + 1) = ((i + 1 : Nat) : Int) := w64 (by omega) (by omega)
      refine ⟨Int.natCast_nonneg _, by simp only [List.length_set, hlen2]; exact h, _, marking_map _ _ _ _ _ _ hi, ?_⟩
      refine ⟨⟨i + 1, by omega⟩, by dsimp only; omega, congrArg (AV.int .i64) ?_, congrArg (AV.int .i64) e4, rfl, .of_eq ?_, trivial⟩
      · (try simp (disch := omega) only [w64]); omega
      · rw [← marking_set _ _ _ _ _ hi, List.map_set]
        simp (disch := omega) only [w64, u8w, modify_set_all, List.set_set, GInt.mark]
        try rfl
    · refine ⟨.i64 ?_, .of_eq (congrArg (AV.ow 1) ?_), trivial⟩
      · rw [List.take_of_length_le (by omega)]
      · rw [marking_all _ _ _ _ _ (by omega)]
theorem held_IntS (l : List GInt) (k : Int) (h0 : 0 ≤ k) (hk : k + cntS GInt.w l ≤ 1152921504606846976) (hl : l.length ≤ 1099511627776) :
    Con 52 [.ro 1 (GInt.ros (markS GInt.mark GInt.w l k)), .int .i64 k] (.int .i64 (k + cntS GInt.w l)) [none, none] := by
  rw [GInt.ros_eq]
  refine con Try.func52 ?_
  refine ⟨{ i : Nat // i ≤ l.length }, fun i => ⟨[(0, .ro 1 ((markS GInt.mark GInt.w l k).map GInt.ro)), (1, .int .i64 (k + cntS GInt.w (l.take i.1))), (5, .int .i64 i.1)], []⟩, fun i => l.length - i.1, ⟨0, by omega⟩, ?_, ?_⟩
  · refine ⟨rfl, congrArg (AV.int .i64) ?_, rfl, trivial⟩
    simp [cntS]
  · rintro ⟨i, hi⟩
    have hlen := markS_len GInt.mark GInt.w l k
    have hlen2 : ((markS GInt.mark GInt.w l k).map GInt.ro).length = l.length := by rw [List.length_map, hlen]
    dsimp only
    refine ⟨fun h => ?_, fun h => ?_⟩ <;> simp only [hlen2, decide_eq_true_eq, decide_eq_false_iff_not] at h
    · have hi : i < l.length := by omega
      have hc := cntS_take_succ GInt.w l i hi
      have hc2 := cntS_take_le GInt.w l (i + 1)
      have hw : GInt.w l[i] = 1 := rfl
      have hg : ((markS GInt.mark GInt.w l k).map GInt.ro)[i]? = some (GInt.ro (GInt.mark l[i] (k + cntS GInt.w (l.take i)))) := by
        rw [map_get _ _ (by omega), markS_get _ _ _ _ _ hi]
      have e4 : IntKind.wrap .i64 ((i : Int) + 1) = ((i + 1 : Nat) : Int) := w64 (by omega) (by omega)
      refine ⟨Int.natCast_nonneg _, _, hg, ?_⟩
      refine ⟨fun h => absurd (by (try simp (disch := omega) only [w64]); try rfl) (of_decide_eq_true h), fun h => ?_⟩
      refine ⟨⟨i + 1, by omega⟩, by dsimp only; omega, rfl, congrArg (AV.int .i64) ?_, congrArg (AV.int .i64) e4, trivial⟩
      (try simp (disch := omega) only [w64]); omega
    · refine ⟨.i64 ?_, trivial⟩
      rw [List.take_of_length_le (by omega)]
def GExpr.outs (a : GExpr) (k : Int) : List AV := [.int .i64 a.k, .int .i64 a.n, .str a.s, .ow 4 (GExpr.ows (markS GExpr.mark GExpr.w a.l (k)))]
def GExpr.tw (a : GExpr) : Nat := cntS GExpr.w a.l
theorem GExpr.tw4 (a : GExpr) : GExpr.tw a ≤ 4 * GExpr.bulk a := by
  have := cnt4 GExpr.w GExpr.bulk a.l fun y _ => GExpr.w4 y
  have h1 : GExpr.tw a = cntS GExpr.w a.l := rfl
  have h2 := GExpr.bulk_un a
  omega
def GObj.outs (a : GObj) (k : Int) : List AV := [.ow 3 (GSect.ows (markS GSect.mark GSect.w a.sects (k))), .ow 5 (GGlob.ows (markS GGlob.mark GGlob.w a.globs (k + cntS GSect.w a.sects)))]
def GObj.tw (a : GObj) : Nat := cntS GSect.w a.sects + cntS GGlob.w a.globs
theorem GObj.tw4 (a : GObj) : GObj.tw a ≤ 4 * GObj.bulk a := by
  have := cnt4 GSect.w GSect.bulk a.sects fun y _ => GSect.w4 y
  have := cnt4 GGlob.w GGlob.bulk a.globs fun y _ => GGlob.w4 y
  have h1 : GObj.tw a = cntS GSect.w a.sects + cntS GGlob.w a.globs := rfl
  have h2 := GObj.bulk_un a
  omega
def GLib.outs (a : GLib) (k : Int) : List AV := [.ow 2 (GLibMod.ows (markS GLibMod.mark GLibMod.w a.mods (k)))]
def GLib.tw (a : GLib) : Nat := cntS GLibMod.w a.mods
theorem GLib.tw4 (a : GLib) : GLib.tw a ≤ 4 * GLib.bulk a := by
  have := cnt4 GLibMod.w GLibMod.bulk a.mods fun y _ => GLibMod.w4 y
  have h1 : GLib.tw a = cntS GLibMod.w a.mods := rfl
  have h2 := GLib.bulk_un a
  omega
def GMach.outs (a : GMach) (k : Int) : List AV := [.ow 1 (GInt.ows (markS GInt.mark GInt.w a.mem (k))), .ow 1 (GInt.ows (markS GInt.mark GInt.w a.r (k + cntS GInt.w a.mem))), .bool a.n, .bool a.z, .bool a.v, .bool a.c, .ow 1 (GInt.ows (markS GInt.mark GInt.w a.inp (k + cntS GInt.w a.mem + cntS GInt.w a.r))), .ow 1 (GInt.ows (markS GInt.mark GInt.w a.out (k + cntS GInt.w a.mem + cntS GInt.w a.r + cntS GInt.w a.inp))), .int .i64 a.stop]
def GMach.tw (a : GMach) : Nat := cntS GInt.w a.mem + cntS GInt.w a.r + cntS GInt.w a.inp + cntS GInt.w a.out
theorem GMach.tw4 (a : GMach) : GMach.tw a ≤ 4 * GMach.bulk a := by
  have := cnt4 GInt.w GInt.bulk a.mem fun y _ => GInt.w4 y
  have := cnt4 GInt.w GInt.bulk a.r fun y _ => GInt.w4 y
  have := cnt4 GInt.w GInt.bulk a.inp fun y _ => GInt.w4 y
  have := cnt4 GInt.w GInt.bulk a.out fun y _ => GInt.w4 y
  have h1 : GMach.tw a = cntS GInt.w a.mem + cntS GInt.w a.r + cntS GInt.w a.inp + cntS GInt.w a.out := rfl
  have h2 := GMach.bulk_un a
  omega
theorem mark_Mach (a : GMach) (k : Int) (h0 : 0 ≤ k) (hk : k + GMach.tw a ≤ 1152921504606846976) (hf : GMach.fit a) : Con 25 [.agg (GMach.ow a), .int .i64 k] (.int .i64 (k + GMach.tw a)) [some (.agg (GMach.outs a k)), none] := by
  refine con Try.func25 ?_
  have ht : GMach.tw a = cntS GInt.w a.mem + cntS GInt.w a.r + cntS GInt.w a.inp + cntS GInt.w a.out := rfl
  obtain ⟨f1, f2, f3, f4⟩ := GMach.fit_un hf
  refine ⟨[.muts 1, .ro], .int .i64 (k + cntS GInt.w a.mem), [some (.ow 1 (GInt.ows (markS GInt.mark GInt.w a.mem (k)))), none], mark_IntS a.mem (k) (by omega) (by omega) f1.1, trivial, ?_⟩
  refine ⟨[.muts 1, .ro], .int .i64 (k + cntS GInt.w a.mem + cntS GInt.w a.r), [some (.ow 1 (GInt.ows (markS GInt.mark GInt.w a.r (k + cntS GInt.w a.mem)))), none], mark_IntS a.r (k + cntS GInt.w a.mem) (by omega) (by omega) f2.1, trivial, ?_⟩
  refine ⟨[.muts 1, .ro], .int .i64 (k + cntS GInt.w a.mem + cntS GInt.w a.r + cntS GInt.w a.inp), [some (.ow 1 (GInt.ows (markS GInt.mark GInt.w a.inp (k + cntS GInt.w a.mem + cntS GInt.w a.r)))), none], mark_IntS a.inp (k + cntS GInt.w a.mem + cntS GInt.w a.r) (by omega) (by omega) f3.1, trivial, ?_⟩
  refine ⟨[.muts 1, .ro], .int .i64 (k + cntS GInt.w a.mem + cntS GInt.w a.r + cntS GInt.w a.inp + cntS GInt.w a.out), [some (.ow 1 (GInt.ows (markS GInt.mark GInt.w a.out (k + cntS GInt.w a.mem + cntS GInt.w a.r + cntS GInt.w a.inp)))), none], mark_IntS a.out (k + cntS GInt.w a.mem + cntS GInt.w a.r + cntS GInt.w a.inp) (by omega) (by omega) f4.1, trivial, ?_⟩
  refine ⟨.i64 (by omega), .refl _, trivial⟩
theorem held_Mach (a : GMach) (k : Int) (h0 : 0 ≤ k) (hk : k + GMach.tw a ≤ 1152921504606846976) (hf : GMach.fit a) : Con 26 [.agg (toRoL (GMach.outs a k)), .int .i64 k] (.int .i64 (k + GMach.tw a)) [none, none] := by
  simp only [GMach.outs, toRoL, toRo, GInt.toRo_ows (markS GInt.mark GInt.w a.mem (k)) fun y _ => GInt.toRo_ow y, GInt.toRo_ows (markS GInt.mark GInt.w a.r (k + cntS GInt.w a.mem)) fun y _ => GInt.toRo_ow y, GInt.toRo_ows (markS GInt.mark GInt.w a.inp (k + cntS GInt.w a.mem + cntS GInt.w a.r)) fun y _ => GInt.toRo_ow y, GInt.toRo_ows (markS GInt.mark GInt.w a.out (k + cntS GInt.w a.mem + cntS GInt.w a.r + cntS GInt.w a.inp)) fun y _ => GInt.toRo_ow y]
  refine con Try.func26 ?_
  have ht : GMach.tw a = cntS GInt.w a.mem + cntS GInt.w a.r + cntS GInt.w a.inp + cntS GInt.w a.out := rfl
  obtain ⟨f1, f2, f3, f4⟩ := GMach.fit_un hf
  refine ⟨[.ro, .ro], .int .i64 (k + cntS GInt.w a.mem), [none, none], held_IntS a.mem (k) (by omega) (by omega) f1.1, trivial, ?_⟩
  refine ⟨fun h => absurd (of_decide_eq_true h) (by omega), fun h => ?_⟩
  refine ⟨[.ro, .ro], .int .i64 (k + cntS GInt.w a.mem + cntS GInt.w a.r), [none, none], held_IntS a.r (k + cntS GInt.w a.mem) (by omega) (by omega) f2.1, trivial, ?_⟩
  refine ⟨fun h => absurd (of_decide_eq_true h) (by omega), fun h => ?_⟩
  refine ⟨[.ro, .ro], .int .i64 (k + cntS GInt.w a.mem + cntS GInt.w a.r + cntS GInt.w a.inp), [none, none], held_IntS a.inp (k + cntS GInt.w a.mem + cntS GInt.w a.r) (by omega) (by omega) f3.1, trivial, ?_⟩
  refine ⟨fun h => absurd (of_decide_eq_true h) (by omega), fun h => ?_⟩
  refine ⟨[.ro, .ro], .int .i64 (k + cntS GInt.w a.mem + cntS GInt.w a.r + cntS GInt.w a.inp + cntS GInt.w a.out), [none, none], held_IntS a.out (k + cntS GInt.w a.mem + cntS GInt.w a.r + cntS GInt.w a.inp) (by omega) (by omega) f4.1, trivial, ?_⟩
  refine ⟨fun h => absurd (of_decide_eq_true h) (by omega), fun h => ?_⟩
  refine ⟨.i64 (by omega), trivial⟩
end Go.Proofs.VI
