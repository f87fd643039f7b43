/- Contracts of functions, and what they rest on: marktext marks2 markss. -/
import Derived.Test.YtjlonhiojgljcaaGreatD2
set_option linter.unusedVariables false
set_option linter.unusedSimpArgs false
set_option maxRecDepth 10000
set_option maxHeartbeats 4000000
namespace Go.Proofs.VI
open Go
theorem markText_ok (k : Int) (h0 : 0 ≤ k) (h1 : k ≤ 1152921504606846976) : Con 75 [.int .i64 k] (.str (mtext k)) [none] := by
  refine con Tryz.func75 ?_
  refine ⟨fun h => ⟨.of_eq (congrArg AV.str ?_), trivial⟩, fun h => ?_⟩ <;> simp only [decide_eq_true_eq, decide_eq_false_iff_not] at h
  · rw [mtext, if_pos h]; rfl
  refine ⟨{ p : Nat × List UInt8 // p.1 ≤ k.toNat ∧ dig p.1 ++ p.2 = dig k.toNat }, fun p => ⟨[(0, .int .i64 p.1.1), (3, .str (bytes p.1.2))], []⟩, fun p => p.1.1, ⟨(k.toNat, []), by omega, by simp⟩, ?_, ?_⟩
  · exact ⟨congrArg (AV.int .i64) (by dsimp only; omega), rfl, trivial⟩
  · rintro ⟨⟨n, l⟩, hn, hl⟩
    dsimp only at hn hl ⊢
    have hsz : l.length ≤ k.toNat := by
      have := dig_len k.toNat
      rw [← hl] at this
      simp at this; omega
    refine ⟨fun h => ?_, fun h => ?_⟩ <;> simp only [decide_eq_true_eq, decide_eq_false_iff_not] at h
    · have hd : IntKind.u8.wrap (IntKind.i64.wrap (48 + (n : Int).tmod 10)) = ((48 + n % 10 : Nat) : Int) := by
        rw [Int.tmod_eq_emod_of_nonneg (by omega), w64 (by omega) (by omega), IntWalk.u8_in _ (by omega)]
        omega
      have hr : rowsStr [[AV.int .u8 (IntKind.u8.wrap (IntKind.i64.wrap (48 + (n : Int).tmod 10)))]] = bytes [(48 + n % 10).toUInt8] := by
        rw [hd]; rfl
      refine ⟨by decide, rfl, ?_, ?_, by decide, ⟨(n / 10, (48 + n % 10).toUInt8 :: l), by omega, ?_⟩, ?_, ?_⟩
      · intro r hr
        rw [List.mem_singleton] at hr
        exact ⟨_, hr, by rw [hd]; omega, by rw [hd]; omega⟩
      · rw [hr, bytes_size, bytes_size]; simp; omega
      · rw [← hl, dig_pos n (by omega)]; simp
      · dsimp only; omega
      · refine ⟨congrArg (AV.int .i64) ?_, congrArg AV.str ?_, trivial⟩
        · rw [Int.tdiv_eq_ediv_of_nonneg (by omega), w64 (by omega) (by omega)]
          dsimp only; omega
        · rw [hr, bytes_append]; rfl
    · refine ⟨?_, .of_eq (congrArg AV.str ?_), trivial⟩
      · show (bytes [109]).size + _ ≤ _
        rw [bytes_size, bytes_size]; simp; omega
      · show bytes [109] ++ _ = _
        rw [bytes_append, mtext, if_neg (by omega), ← hl, show n = 0 by omega, dig]; rfl
def GInt.mark (_ : GInt) (k : Int) : GInt := k
def GInt.w (_ : GInt) : Nat := 1
def GByte.mark (_ : GByte) (k : Int) : GByte := UInt8.ofNat (k.toNat % 256)
def GByte.w (_ : GByte) : Nat := 1
def GString.mark (_ : GString) (k : Int) : GString := mtext k
def GString.w (_ : GString) : Nat := 1
def GOpd.mark (a : GOpd) (k : Int) : GOpd := ⟨k, k + 1, k + 1 + 1⟩
def GOpd.w (_ : GOpd) : Nat := 1 + 1 + 1
def GToken.mark (a : GToken) (k : Int) : GToken := ⟨k, k + 1, mtext (k + 1 + 1)⟩
def GToken.w (_ : GToken) : Nat := 1 + 1 + 1
mutual
def GExpr.w : GExpr → Nat
  | .mk _ _ _ l => 3 + GExpr.wL l
def GExpr.wL : List GExpr → Nat
  | [] => 0
  | e :: l => GExpr.w e + GExpr.wL l
end
theorem GExpr.wL_eq (l : List GExpr) : GExpr.wL l = cntS GExpr.w l := by
  induction l with
  | nil => rfl
  | cons e l ih => rw [GExpr.wL, cntS, ih]
mutual
def GExpr.mark : GExpr → Int → GExpr
  | .mk _ _ _ l, k => .mk (k) (k + 1) (mtext (k + 1 + 1)) (GExpr.markL l (k + 1 + 1 + 1))
def GExpr.markL : List GExpr → Int → List GExpr
  | [], _ => []
  | e :: l, k => GExpr.mark e k :: GExpr.markL l (k + GExpr.w e)
end
theorem GExpr.markL_eq (l : List GExpr) (k : Int) : GExpr.markL l k = markS GExpr.mark GExpr.w l k := by
  induction l generalizing k with
  | nil => rfl
  | cons e l ih => rw [GExpr.markL, markS, ih]
theorem GExpr.w_un (a : GExpr) : GExpr.w a = 3 + cntS GExpr.w a.l := by
  cases a; rw [GExpr.w, GExpr.wL_eq]; rfl
theorem GExpr.mark_un (a : GExpr) (k : Int) : GExpr.mark a k = .mk (k) (k + 1) (mtext (k + 1 + 1)) (markS GExpr.mark GExpr.w a.l (k + 1 + 1 + 1)) := by
  cases a; rw [GExpr.mark, GExpr.markL_eq]; rfl
def GSect.mark (a : GSect) (k : Int) : GSect := ⟨mtext (k), decide ((k + 1).tmod 3 = 0), markS GExpr.mark GExpr.w a.words (k + 1 + 1)⟩
def GSect.w (a : GSect) : Nat := 1 + 1 + cntS GExpr.w a.words
def GGlob.mark (a : GGlob) (k : Int) : GGlob := ⟨mtext (k), GExpr.mark a.e (k + 1)⟩
def GGlob.w (a : GGlob) : Nat := 1 + GExpr.w a.e
def GObj.mark (a : GObj) (k : Int) : GObj := ⟨markS GSect.mark GSect.w a.sects (k), markS GGlob.mark GGlob.w a.globs (k + ((cntS GSect.w a.sects : Nat) : Int))⟩
def GObj.w (a : GObj) : Nat := cntS GSect.w a.sects + cntS GGlob.w a.globs
def GLibMod.mark (a : GLibMod) (k : Int) : GLibMod := ⟨mtext (k), markS GByte.mark GByte.w a.b (k + 1)⟩
def GLibMod.w (a : GLibMod) : Nat := 1 + cntS GByte.w a.b
def GLib.mark (a : GLib) (k : Int) : GLib := ⟨markS GLibMod.mark GLibMod.w a.mods (k)⟩
def GLib.w (a : GLib) : Nat := cntS GLibMod.w a.mods
def GPlaced.mark (a : GPlaced) (k : Int) : GPlaced := ⟨k, k + 1, k + 1 + 1⟩
def GPlaced.w (_ : GPlaced) : Nat := 1 + 1 + 1
def GMach.mark (a : GMach) (k : Int) : GMach := ⟨markS GInt.mark GInt.w a.mem (k), markS GInt.mark GInt.w a.r (k + ((cntS GInt.w a.mem : Nat) : Int)), decide ((k + ((cntS GInt.w a.mem : Nat) : Int) + ((cntS GInt.w a.r : Nat) : Int)).tmod 3 = 0), decide ((k + ((cntS GInt.w a.mem : Nat) : Int) + ((cntS GInt.w a.r : Nat) : Int) + 1).tmod 3 = 0), decide ((k + ((cntS GInt.w a.mem : Nat) : Int) + ((cntS GInt.w a.r : Nat) : Int) + 1 + 1).tmod 3 = 0), decide ((k + ((cntS GInt.w a.mem : Nat) : Int) + ((cntS GInt.w a.r : Nat) : Int) + 1 + 1 + 1).tmod 3 = 0), markS GInt.mark GInt.w a.inp (k + ((cntS GInt.w a.mem : Nat) : Int) + ((cntS GInt.w a.r : Nat) : Int) + 1 + 1 + 1 + 1), markS GInt.mark GInt.w a.out (k + ((cntS GInt.w a.mem : Nat) : Int) + ((cntS GInt.w a.r : Nat) : Int) + 1 + 1 + 1 + 1 + ((cntS GInt.w a.inp : Nat) : Int)), k + ((cntS GInt.w a.mem : Nat) : Int) + ((cntS GInt.w a.r : Nat) : Int) + 1 + 1 + 1 + 1 + ((cntS GInt.w a.inp : Nat) : Int) + ((cntS GInt.w a.out : Nat) : Int)⟩
def GMach.w (a : GMach) : Nat := cntS GInt.w a.mem + cntS GInt.w a.r + 1 + 1 + 1 + 1 + cntS GInt.w a.inp + cntS GInt.w a.out + 1
abbrev GTokenS.w (x : GTokenS) : Nat := cntS GToken.w x
abbrev GTokenS.mark (x : GTokenS) (k : Int) : GTokenS := markS GToken.mark GToken.w x k
theorem modify_set_all {α : Type} (l : List α) (i : Nat) (f : α → α) (x : α) : (l.set i x).modify i f = l.set i (f x) := by
  rcases Nat.lt_or_ge i l.length with h | h
  · exact modify_set l i f x h
  · rw [List.set_eq_of_length_le h, List.set_eq_of_length_le h, List.modify_eq_self h]
theorem u8w {k : Int} (h : 0 ≤ k) : IntKind.wrap .u8 k = ((UInt8.ofNat (k.toNat % 256)).toNat : Int) := by
  have e : IntKind.wrap .u8 k = k % 256 := rfl
  rw [e, UInt8.toNat_ofNat']
  omega
theorem cnt4 {α : Type} (w b : α → Nat) (l : List α) (h : ∀ x ∈ l, w x ≤ 4 + 4 * b x) : cntS w l ≤ 4 * bulkS b l := by
  induction l with
  | nil => simp [cntS]
  | cons x l ih =>
    have := h x (by simp)
    have := ih fun y hy => h y (by simp [hy])
    simp only [cntS, bulkS]; omega
theorem GInt.w4 (a : GInt) : GInt.w a ≤ 4 + 4 * GInt.bulk a := by
  have : GInt.w a = 1 := rfl
  omega
theorem GByte.w4 (a : GByte) : GByte.w a ≤ 4 + 4 * GByte.bulk a := by
  have : GByte.w a = 1 := rfl
  omega
theorem GString.w4 (a : GString) : GString.w a ≤ 4 + 4 * GString.bulk a := by
  have : GString.w a = 1 := rfl
  omega
theorem GOpd.w4 (a : GOpd) : GOpd.w a ≤ 4 + 4 * GOpd.bulk a := by
  skip
  have h1 : GOpd.w a = 1 + 1 + 1 := rfl
  have h2 := GOpd.bulk_un a
  omega
theorem GToken.w4 (a : GToken) : GToken.w a ≤ 4 + 4 * GToken.bulk a := by
  skip
  have h1 : GToken.w a = 1 + 1 + 1 := rfl
  have h2 := GToken.bulk_un a
  omega
theorem GExpr.w3 : ∀ a : GExpr, GExpr.w a ≤ 3 + 4 * GExpr.bulk a := by
  refine GExpr.ind fun a ih => ?_
  have h1 := GExpr.w_un a
  have h2 := GExpr.bulk_un a
  have h3 := cnt4 GExpr.w GExpr.bulk a.l fun x hx => by have := ih x hx; omega
  omega
theorem GExpr.w4 (a : GExpr) : GExpr.w a ≤ 4 + 4 * GExpr.bulk a := by have := GExpr.w3 a; omega
theorem GSect.w4 (a : GSect) : GSect.w a ≤ 4 + 4 * GSect.bulk a := by
  have := cnt4 GExpr.w GExpr.bulk a.words fun y _ => GExpr.w4 y
  have h1 : GSect.w a = 1 + 1 + cntS GExpr.w a.words := rfl
  have h2 := GSect.bulk_un a
  omega
theorem GGlob.w4 (a : GGlob) : GGlob.w a ≤ 4 + 4 * GGlob.bulk a := by
  have := GExpr.w3 a.e
  have h1 : GGlob.w a = 1 + GExpr.w a.e := rfl
  have h2 := GGlob.bulk_un a
  omega
theorem GObj.w4 (a : GObj) : GObj.w a ≤ 4 + 4 * GObj.bulk a := by
  have := cnt4 GSect.w GSect.bulk a.sects fun y _ => GSect.w4 y
  have := cnt4 GGlob.w GGlob.bulk a.globs fun y _ => GGlob.w4 y
  have h1 : GObj.w a = cntS GSect.w a.sects + cntS GGlob.w a.globs := rfl
  have h2 := GObj.bulk_un a
  omega
theorem GLibMod.w4 (a : GLibMod) : GLibMod.w a ≤ 4 + 4 * GLibMod.bulk a := by
  have := cnt4 GByte.w GByte.bulk a.b fun y _ => GByte.w4 y
  have h1 : GLibMod.w a = 1 + cntS GByte.w a.b := rfl
  have h2 := GLibMod.bulk_un a
  omega
theorem GLib.w4 (a : GLib) : GLib.w a ≤ 4 + 4 * GLib.bulk a := by
  have := cnt4 GLibMod.w GLibMod.bulk a.mods fun y _ => GLibMod.w4 y
  have h1 : GLib.w a = cntS GLibMod.w a.mods := rfl
  have h2 := GLib.bulk_un a
  omega
theorem GPlaced.w4 (a : GPlaced) : GPlaced.w a ≤ 4 + 4 * GPlaced.bulk a := by
  skip
  have h1 : GPlaced.w a = 1 + 1 + 1 := rfl
  have h2 := GPlaced.bulk_un a
  omega
theorem GTokenS.w4 (a : GTokenS) : GTokenS.w a ≤ 4 + 4 * GTokenS.bulk a := by
  have := cnt4 GToken.w GToken.bulk a fun y _ => GToken.w4 y
  show cntS GToken.w a ≤ 4 + 4 * bulkS GToken.bulk a
  omega
theorem mark_ByteS (l : List GByte) (k : Int) (h0 : 0 ≤ k) (hk : k + cntS GByte.w l ≤ 1152921504606846976) (hl : l.length ≤ 1099511627776) :
    Con 149 [.ow 1 (GByte.ows l), .int .i64 k] (.int .i64 (k + cntS GByte.w l)) [some (.ow 1 (GByte.ows (markS GByte.mark GByte.w l k))), none] := by
  simp only [GByte.ows_eq]
  refine con Tryz.func149 ?_
  refine ⟨{ i : Nat // i ≤ l.length }, fun i => ⟨[(0, .own 0), (1, .int .i64 (k + cntS GByte.w (l.take i.1))), (5, .int .i64 i.1)], [(0, .rows 1 ((marking GByte.mark GByte.w l k i.1).map GByte.ow) [])]⟩, fun i => l.length - i.1, ⟨0, by omega⟩, ?_, ?_⟩
  · refine ⟨congrArg (AV.int .i64) ?_, rfl, rfl, .of_eq ?_, trivial⟩
    · simp [cntS]
    · rw [marking_zero]
  · rintro ⟨i, hi⟩
    have hlen := marking_len GByte.mark GByte.w l k i hi
    have hlen2 : ((marking GByte.mark GByte.w l k i).map GByte.ow).length = l.length := by rw [List.length_map, hlen]
    dsimp only
    refine ⟨fun h => ?_, fun h => ?_⟩ <;> simp only [hlen2, decide_eq_true_eq, decide_eq_false_iff_not] at h
    · have hi : i < l.length := by omega
      have hc := cntS_take_succ GByte.w l i hi
      have hc2 := cntS_take_le GByte.w l (i + 1)
      have hw : GByte.w l[i] = 1 := rfl
      have e4 : IntKind.wrap .i64 ((i : Int) + 1) = ((i + 1 : Nat) : Int) := w64 (by omega) (by omega)
      refine ⟨Int.natCast_nonneg _, by simp only [List.length_set, hlen2]; exact h, _, marking_map _ _ _ _ _ _ hi, ?_⟩
      refine ⟨⟨i + 1, by omega⟩, by dsimp only; omega, congrArg (AV.int .i64) ?_, congrArg (AV.int .i64) e4, rfl, .of_eq ?_, trivial⟩
      · (try simp (disch := omega) only [w64]); omega
      · rw [← marking_set _ _ _ _ _ hi, List.map_set]
        simp (disch := omega) only [w64, u8w, modify_set_all, List.set_set, GByte.mark]
        try rfl
    · refine ⟨.i64 ?_, .of_eq (congrArg (AV.ow 1) ?_), trivial⟩
      · rw [List.take_of_length_le (by omega)]
      · rw [marking_all _ _ _ _ _ (by omega)]
theorem held_ByteS (l : List GByte) (k : Int) (h0 : 0 ≤ k) (hk : k + cntS GByte.w l ≤ 1152921504606846976) (hl : l.length ≤ 1099511627776) :
    Con 168 [.ro 1 (GByte.ros (markS GByte.mark GByte.w l k)), .int .i64 k] (.int .i64 (k + cntS GByte.w l)) [none, none] := by
  rw [GByte.ros_eq]
  refine con Tryz.func168 ?_
  refine ⟨{ i : Nat // i ≤ l.length }, fun i => ⟨[(0, .ro 1 ((markS GByte.mark GByte.w l k).map GByte.ro)), (1, .int .i64 (k + cntS GByte.w (l.take i.1))), (5, .int .i64 i.1)], []⟩, fun i => l.length - i.1, ⟨0, by omega⟩, ?_, ?_⟩
  · refine ⟨rfl, congrArg (AV.int .i64) ?_, rfl, trivial⟩
    simp [cntS]
  · rintro ⟨i, hi⟩
    have hlen := markS_len GByte.mark GByte.w l k
    have hlen2 : ((markS GByte.mark GByte.w l k).map GByte.ro).length = l.length := by rw [List.length_map, hlen]
    dsimp only
    refine ⟨fun h => ?_, fun h => ?_⟩ <;> simp only [hlen2, decide_eq_true_eq, decide_eq_false_iff_not] at h
    · have hi : i < l.length := by omega
      have hc := cntS_take_succ GByte.w l i hi
      have hc2 := cntS_take_le GByte.w l (i + 1)
      have hw : GByte.w l[i] = 1 := rfl
      have hg : ((markS GByte.mark GByte.w l k).map GByte.ro)[i]? = some (GByte.ro (GByte.mark l[i] (k + cntS GByte.w (l.take i)))) := by
        rw [map_get _ _ (by omega), markS_get _ _ _ _ _ hi]
      have e4 : IntKind.wrap .i64 ((i : Int) + 1) = ((i + 1 : Nat) : Int) := w64 (by omega) (by omega)
      refine ⟨Int.natCast_nonneg _, _, hg, ?_⟩
      refine ⟨fun h => absurd (u8w (by omega)).symm (of_decide_eq_true h), fun h => ?_⟩
      refine ⟨⟨i + 1, by omega⟩, by dsimp only; omega, rfl, congrArg (AV.int .i64) ?_, congrArg (AV.int .i64) e4, trivial⟩
      (try simp (disch := omega) only [w64]); omega
    · refine ⟨.i64 ?_, trivial⟩
      rw [List.take_of_length_le (by omega)]
theorem mark_ExprS_of (l : List GExpr) (k : Int) (h0 : 0 ≤ k) (hk : k + cntS GExpr.w l ≤ 1152921504606846976) (hl : l.length ≤ 1099511627776) (hf : ∀ x ∈ l, GExpr.fit x) (ih : ∀ x ∈ l, ∀ k : Int, 0 ≤ k → k + cntS GExpr.w x.l ≤ 1152921504606846976 → Con 153 [.ow 4 (GExpr.ows x.l), .int .i64 k] (.int .i64 (k + cntS GExpr.w x.l)) [some (.ow 4 (GExpr.ows (markS GExpr.mark GExpr.w x.l k))), none]) :
    Con 153 [.ow 4 (GExpr.ows l), .int .i64 k] (.int .i64 (k + cntS GExpr.w l)) [some (.ow 4 (GExpr.ows (markS GExpr.mark GExpr.w l k))), none] := by
  simp only [GExpr.ows_eq]
  refine con Tryz.func153 ?_
  refine ⟨{ i : Nat // i ≤ l.length }, fun i => ⟨[(0, .own 0), (1, .int .i64 (k + cntS GExpr.w (l.take i.1))), (5, .int .i64 i.1)], [(0, .rows 4 ((marking GExpr.mark GExpr.w l k i.1).map GExpr.ow) [])]⟩, fun i => l.length - i.1, ⟨0, by omega⟩, ?_, ?_⟩
  · refine ⟨congrArg (AV.int .i64) ?_, rfl, rfl, .of_eq ?_, trivial⟩
    · simp [cntS]
    · rw [marking_zero]
  · rintro ⟨i, hi⟩
    have hlen := marking_len GExpr.mark GExpr.w l k i hi
    have hlen2 : ((marking GExpr.mark GExpr.w l k i).map GExpr.ow).length = l.length := by rw [List.length_map, hlen]
    dsimp only
    refine ⟨fun h => ?_, fun h => ?_⟩ <;> simp only [hlen2, decide_eq_true_eq, decide_eq_false_iff_not] at h
    · have hi : i < l.length := by omega
      have hc := cntS_take_succ GExpr.w l i hi
      have hc2 := cntS_take_le GExpr.w l (i + 1)
      have := GExpr.w_un l[i]
      have f1 := GExpr.fit_un (hf _ (List.getElem_mem hi))
      have e4 : IntKind.wrap .i64 ((i : Int) + 1) = ((i + 1 : Nat) : Int) := w64 (by omega) (by omega)
      refine ⟨Int.natCast_nonneg _, by simp only [List.length_set, hlen2]; exact h, _, marking_map _ _ _ _ _ _ hi, ?_⟩
      refine ⟨Int.natCast_nonneg _, by simp only [List.length_set, hlen2]; exact h, _, set_get _ _ _ (by simp only [List.length_set, hlen2]; omega), ?_⟩
      refine ⟨[.ro], .str (mtext (k + (cntS GExpr.w (l.take i) : Int) + 1 + 1)), [none], by (try simp (disch := omega) only [w64]); exact markText_ok (k + (cntS GExpr.w (l.take i) : Int) + 1 + 1) (by omega) (by omega), trivial, ?_⟩
      refine ⟨Int.natCast_nonneg _, by simp only [List.length_set, hlen2]; exact h, _, set_get _ _ _ (by simp only [List.length_set, hlen2]; omega), ?_⟩
      refine ⟨Int.natCast_nonneg _, by simp only [List.length_set, hlen2]; exact h, _, set_get _ _ _ (by simp only [List.length_set, hlen2]; omega), ?_⟩
      refine ⟨[.muts 4, .ro], .int .i64 (k + (cntS GExpr.w (l.take i) : Int) + 1 + 1 + 1 + cntS GExpr.w l[i].l), [some (.ow 4 (GExpr.ows (markS GExpr.mark GExpr.w l[i].l (k + (cntS GExpr.w (l.take i) : Int) + 1 + 1 + 1)))), none], by (try simp (disch := omega) only [w64]); exact ih l[i] (List.getElem_mem hi) (k + (cntS GExpr.w (l.take i) : Int) + 1 + 1 + 1) (by omega) (by omega), trivial, ?_⟩
      refine ⟨⟨i + 1, by omega⟩, by dsimp only; omega, congrArg (AV.int .i64) ?_, congrArg (AV.int .i64) e4, rfl, .of_eq ?_, trivial⟩
      · (try simp (disch := omega) only [w64]); omega
      · rw [← marking_set _ _ _ _ _ hi, List.map_set]
        simp (disch := omega) only [w64, u8w, modify_set_all, List.set_set, GExpr.mark_un]
        try rfl
    · refine ⟨.i64 ?_, .of_eq (congrArg (AV.ow 4) ?_), trivial⟩
      · rw [List.take_of_length_le (by omega)]
      · rw [marking_all _ _ _ _ _ (by omega)]
theorem mark_ExprL : ∀ (a : GExpr) (hf : GExpr.fit a) (k : Int) (h0 : 0 ≤ k) (hk : k + cntS GExpr.w a.l ≤ 1152921504606846976), Con 153 [.ow 4 (GExpr.ows a.l), .int .i64 k] (.int .i64 (k + cntS GExpr.w a.l)) [some (.ow 4 (GExpr.ows (markS GExpr.mark GExpr.w a.l k))), none] := by
  refine GExpr.ind fun a ih hf k h0 hk => ?_
  have hu := GExpr.fit_un hf
  exact mark_ExprS_of a.l k h0 hk hu.1 hu.2 fun x hx k h0 hk => ih x hx (hu.2 x hx) k h0 hk
theorem mark_ExprS (l : List GExpr) (k : Int) (h0 : 0 ≤ k) (hk : k + cntS GExpr.w l ≤ 1152921504606846976) (hl : l.length ≤ 1099511627776) (hf : ∀ x ∈ l, GExpr.fit x) : Con 153 [.ow 4 (GExpr.ows l), .int .i64 k] (.int .i64 (k + cntS GExpr.w l)) [some (.ow 4 (GExpr.ows (markS GExpr.mark GExpr.w l k))), none] :=
  mark_ExprS_of l k h0 hk hl hf fun x hx k h0 hk => mark_ExprL x (hf x hx) k h0 hk
def GExpr.outs (a : GExpr) (k : Int) : List AV := [.int .i64 a.k, .int .i64 a.n, .str a.s, .ow 4 (GExpr.ows (markS GExpr.mark GExpr.w a.l (k)))]
def GExpr.tw (a : GExpr) : Nat := cntS GExpr.w a.l
theorem GExpr.tw4 (a : GExpr) : GExpr.tw a ≤ 4 * GExpr.bulk a := by
  have := cnt4 GExpr.w GExpr.bulk a.l fun y _ => GExpr.w4 y
  have h1 : GExpr.tw a = cntS GExpr.w a.l := rfl
  have h2 := GExpr.bulk_un a
  omega
theorem mark_SectS (l : List GSect) (k : Int) (h0 : 0 ≤ k) (hk : k + cntS GSect.w l ≤ 1152921504606846976) (hl : l.length ≤ 1099511627776) (hf : ∀ x ∈ l, GSect.fit x) :
    Con 86 [.ow 3 (GSect.ows l), .int .i64 k] (.int .i64 (k + cntS GSect.w l)) [some (.ow 3 (GSect.ows (markS GSect.mark GSect.w l k))), none] := by
  simp only [GSect.ows_eq]
  refine con Tryz.func86 ?_
  refine ⟨{ i : Nat // i ≤ l.length }, fun i => ⟨[(0, .own 0), (1, .int .i64 (k + cntS GSect.w (l.take i.1))), (5, .int .i64 i.1)], [(0, .rows 3 ((marking GSect.mark GSect.w l k i.1).map GSect.ow) [])]⟩, fun i => l.length - i.1, ⟨0, by omega⟩, ?_, ?_⟩
  · refine ⟨congrArg (AV.int .i64) ?_, rfl, rfl, .of_eq ?_, trivial⟩
    · simp [cntS]
    · rw [marking_zero]
  · rintro ⟨i, hi⟩
    have hlen := marking_len GSect.mark GSect.w l k i hi
    have hlen2 : ((marking GSect.mark GSect.w l k i).map GSect.ow).length = l.length := by rw [List.length_map, hlen]
    dsimp only
    refine ⟨fun h => ?_, fun h => ?_⟩ <;> simp only [hlen2, decide_eq_true_eq, decide_eq_false_iff_not] at h
    · have hi : i < l.length := by omega
      have hc := cntS_take_succ GSect.w l i hi
      have hc2 := cntS_take_le GSect.w l (i + 1)
      have : GSect.w l[i] = 1 + 1 + cntS GExpr.w l[i].words := rfl
      have f1 := GSect.fit_un (hf _ (List.getElem_mem hi))
      have e4 : IntKind.wrap .i64 ((i : Int) + 1) = ((i + 1 : Nat) : Int) := w64 (by omega) (by omega)
      refine ⟨[.ro], .str (mtext (k + (cntS GSect.w (l.take i) : Int))), [none], by (try simp (disch := omega) only [w64]); exact markText_ok (k + (cntS GSect.w (l.take i) : Int)) (by omega) (by omega), trivial, ?_⟩
      refine ⟨Int.natCast_nonneg _, by simp only [List.length_set, hlen2]; exact h, _, marking_map _ _ _ _ _ _ hi, ?_⟩
      refine ⟨by decide, ?_⟩
      refine ⟨Int.natCast_nonneg _, by simp only [List.length_set, hlen2]; exact h, _, set_get _ _ _ (by simp only [List.length_set, hlen2]; omega), ?_⟩
      refine ⟨Int.natCast_nonneg _, by simp only [List.length_set, hlen2]; exact h, _, set_get _ _ _ (by simp only [List.length_set, hlen2]; omega), ?_⟩
      refine ⟨[.muts 4, .ro], .int .i64 (k + (cntS GSect.w (l.take i) : Int) + 1 + 1 + cntS GExpr.w l[i].words), [some (.ow 4 (GExpr.ows (markS GExpr.mark GExpr.w l[i].words (k + (cntS GSect.w (l.take i) : Int) + 1 + 1)))), none], by (try simp (disch := omega) only [w64]); exact mark_ExprS l[i].words (k + (cntS GSect.w (l.take i) : Int) + 1 + 1) (by omega) (by omega) f1.1 f1.2, trivial, ?_⟩
      refine ⟨⟨i + 1, by omega⟩, by dsimp only; omega, congrArg (AV.int .i64) ?_, congrArg (AV.int .i64) e4, rfl, .of_eq ?_, trivial⟩
      · (try simp (disch := omega) only [w64]); omega
      · rw [← marking_set _ _ _ _ _ hi, List.map_set]
        simp (disch := omega) only [w64, u8w, modify_set_all, List.set_set, GSect.mark]
        try rfl
    · refine ⟨.i64 ?_, .of_eq (congrArg (AV.ow 3) ?_), trivial⟩
      · rw [List.take_of_length_le (by omega)]
      · rw [marking_all _ _ _ _ _ (by omega)]
theorem mark_GlobS (l : List GGlob) (k : Int) (h0 : 0 ≤ k) (hk : k + cntS GGlob.w l ≤ 1152921504606846976) (hl : l.length ≤ 1099511627776) (hf : ∀ x ∈ l, GGlob.fit x) :
    Con 87 [.ow 5 (GGlob.ows l), .int .i64 k] (.int .i64 (k + cntS GGlob.w l)) [some (.ow 5 (GGlob.ows (markS GGlob.mark GGlob.w l k))), none] := by
  simp only [GGlob.ows_eq]
  refine con Tryz.func87 ?_
  refine ⟨{ i : Nat // i ≤ l.length }, fun i => ⟨[(0, .own 0), (1, .int .i64 (k + cntS GGlob.w (l.take i.1))), (5, .int .i64 i.1)], [(0, .rows 5 ((marking GGlob.mark GGlob.w l k i.1).map GGlob.ow) [])]⟩, fun i => l.length - i.1, ⟨0, by omega⟩, ?_, ?_⟩
  · refine ⟨congrArg (AV.int .i64) ?_, rfl, rfl, .of_eq ?_, trivial⟩
    · simp [cntS]
    · rw [marking_zero]
  · rintro ⟨i, hi⟩
    have hlen := marking_len GGlob.mark GGlob.w l k i hi
    have hlen2 : ((marking GGlob.mark GGlob.w l k i).map GGlob.ow).length = l.length := by rw [List.length_map, hlen]
    dsimp only
    refine ⟨fun h => ?_, fun h => ?_⟩ <;> simp only [hlen2, decide_eq_true_eq, decide_eq_false_iff_not] at h
    · have hi : i < l.length := by omega
      have hc := cntS_take_succ GGlob.w l i hi
      have hc2 := cntS_take_le GGlob.w l (i + 1)
      have : GGlob.w l[i] = 1 + GExpr.w l[i].e := rfl
      have := GExpr.w_un l[i].e
      have f1 := GGlob.fit_un (hf _ (List.getElem_mem hi))
      have f2 := GExpr.fit_un f1
      have e4 : IntKind.wrap .i64 ((i : Int) + 1) = ((i + 1 : Nat) : Int) := w64 (by omega) (by omega)
      refine ⟨[.ro], .str (mtext (k + (cntS GGlob.w (l.take i) : Int))), [none], by (try simp (disch := omega) only [w64]); exact markText_ok (k + (cntS GGlob.w (l.take i) : Int)) (by omega) (by omega), trivial, ?_⟩
      refine ⟨Int.natCast_nonneg _, by simp only [List.length_set, hlen2]; exact h, _, marking_map _ _ _ _ _ _ hi, ?_⟩
      refine ⟨Int.natCast_nonneg _, by simp only [List.length_set, hlen2]; exact h, _, set_get _ _ _ (by simp only [List.length_set, hlen2]; omega), ?_⟩
      refine ⟨Int.natCast_nonneg _, by simp only [List.length_set, hlen2]; exact h, _, set_get _ _ _ (by simp only [List.length_set, hlen2]; omega), ?_⟩
      refine ⟨[.ro], .str (mtext (k + (cntS GGlob.w (l.take i) : Int) + 1 + 1 + 1)), [none], by (try simp (disch := omega) only [w64]); exact markText_ok (k + (cntS GGlob.w (l.take i) : Int) + 1 + 1 + 1) (by omega) (by omega), trivial, ?_⟩
      refine ⟨Int.natCast_nonneg _, by simp only [List.length_set, hlen2]; exact h, _, set_get _ _ _ (by simp only [List.length_set, hlen2]; omega), ?_⟩
      refine ⟨Int.natCast_nonneg _, by simp only [List.length_set, hlen2]; exact h, _, set_get _ _ _ (by simp only [List.length_set, hlen2]; omega), ?_⟩
      refine ⟨[.muts 4, .ro], .int .i64 (k + (cntS GGlob.w (l.take i) : Int) + 1 + 1 + 1 + 1 + cntS GExpr.w l[i].e.l), [some (.ow 4 (GExpr.ows (markS GExpr.mark GExpr.w l[i].e.l (k + (cntS GGlob.w (l.take i) : Int) + 1 + 1 + 1 + 1)))), none], by (try simp (disch := omega) only [w64]); exact mark_ExprS l[i].e.l (k + (cntS GGlob.w (l.take i) : Int) + 1 + 1 + 1 + 1) (by omega) (by omega) f2.1 f2.2, trivial, ?_⟩
      refine ⟨⟨i + 1, by omega⟩, by dsimp only; omega, congrArg (AV.int .i64) ?_, congrArg (AV.int .i64) e4, rfl, .of_eq ?_, trivial⟩
      · (try simp (disch := omega) only [w64]); omega
      · rw [← marking_set _ _ _ _ _ hi, List.map_set]
        simp (disch := omega) only [w64, u8w, modify_set_all, List.set_set, GGlob.mark, GExpr.mark_un]
        try rfl
    · refine ⟨.i64 ?_, .of_eq (congrArg (AV.ow 5) ?_), trivial⟩
      · rw [List.take_of_length_le (by omega)]
      · rw [marking_all _ _ _ _ _ (by omega)]
def GObj.outs (a : GObj) (k : Int) : List AV := [.ow 3 (GSect.ows (markS GSect.mark GSect.w a.sects (k))), .ow 5 (GGlob.ows (markS GGlob.mark GGlob.w a.globs (k + cntS GSect.w a.sects)))]
def GObj.tw (a : GObj) : Nat := cntS GSect.w a.sects + cntS GGlob.w a.globs
theorem GObj.tw4 (a : GObj) : GObj.tw a ≤ 4 * GObj.bulk a := by
  have := cnt4 GSect.w GSect.bulk a.sects fun y _ => GSect.w4 y
  have := cnt4 GGlob.w GGlob.bulk a.globs fun y _ => GGlob.w4 y
  have h1 : GObj.tw a = cntS GSect.w a.sects + cntS GGlob.w a.globs := rfl
  have h2 := GObj.bulk_un a
  omega
theorem mark_Obj (a : GObj) (k : Int) (h0 : 0 ≤ k) (hk : k + GObj.tw a ≤ 1152921504606846976) (hf : GObj.fit a) : Con 39 [.agg (GObj.ow a), .int .i64 k] (.int .i64 (k + GObj.tw a)) [some (.agg (GObj.outs a k)), none] := by
  refine con Tryz.func39 ?_
  have ht : GObj.tw a = cntS GSect.w a.sects + cntS GGlob.w a.globs := rfl
  obtain ⟨f1, f2⟩ := GObj.fit_un hf
  refine ⟨[.muts 3, .ro], .int .i64 (k + cntS GSect.w a.sects), [some (.ow 3 (GSect.ows (markS GSect.mark GSect.w a.sects (k)))), none], mark_SectS a.sects (k) (by omega) (by omega) f1.1 f1.2, trivial, ?_⟩
  refine ⟨[.muts 5, .ro], .int .i64 (k + cntS GSect.w a.sects + cntS GGlob.w a.globs), [some (.ow 5 (GGlob.ows (markS GGlob.mark GGlob.w a.globs (k + cntS GSect.w a.sects)))), none], mark_GlobS a.globs (k + cntS GSect.w a.sects) (by omega) (by omega) f2.1 f2.2, trivial, ?_⟩
  refine ⟨.i64 (by omega), .refl _, trivial⟩
theorem mark_LibModS (l : List GLibMod) (k : Int) (h0 : 0 ≤ k) (hk : k + cntS GLibMod.w l ≤ 1152921504606846976) (hl : l.length ≤ 1099511627776) (hf : ∀ x ∈ l, GLibMod.fit x) :
    Con 74 [.ow 2 (GLibMod.ows l), .int .i64 k] (.int .i64 (k + cntS GLibMod.w l)) [some (.ow 2 (GLibMod.ows (markS GLibMod.mark GLibMod.w l k))), none] := by
  simp only [GLibMod.ows_eq]
  refine con Tryz.func74 ?_
  refine ⟨{ i : Nat // i ≤ l.length }, fun i => ⟨[(0, .own 0), (1, .int .i64 (k + cntS GLibMod.w (l.take i.1))), (5, .int .i64 i.1)], [(0, .rows 2 ((marking GLibMod.mark GLibMod.w l k i.1).map GLibMod.ow) [])]⟩, fun i => l.length - i.1, ⟨0, by omega⟩, ?_, ?_⟩
  · refine ⟨congrArg (AV.int .i64) ?_, rfl, rfl, .of_eq ?_, trivial⟩
    · simp [cntS]
    · rw [marking_zero]
  · rintro ⟨i, hi⟩
    have hlen := marking_len GLibMod.mark GLibMod.w l k i hi
    have hlen2 : ((marking GLibMod.mark GLibMod.w l k i).map GLibMod.ow).length = l.length := by rw [List.length_map, hlen]
    dsimp only
    refine ⟨fun h => ?_, fun h => ?_⟩ <;> simp only [hlen2, decide_eq_true_eq, decide_eq_false_iff_not] at h
    · have hi : i < l.length := by omega
      have hc := cntS_take_succ GLibMod.w l i hi
      have hc2 := cntS_take_le GLibMod.w l (i + 1)
      have : GLibMod.w l[i] = 1 + cntS GByte.w l[i].b := rfl
      have f1 := GLibMod.fit_un (hf _ (List.getElem_mem hi))
      have e4 : IntKind.wrap .i64 ((i : Int) + 1) = ((i + 1 : Nat) : Int) := w64 (by omega) (by omega)
      refine ⟨[.ro], .str (mtext (k + (cntS GLibMod.w (l.take i) : Int))), [none], by (try simp (disch := omega) only [w64]); exact markText_ok (k + (cntS GLibMod.w (l.take i) : Int)) (by omega) (by omega), trivial, ?_⟩
      refine ⟨Int.natCast_nonneg _, by simp only [List.length_set, hlen2]; exact h, _, marking_map _ _ _ _ _ _ hi, ?_⟩
      refine ⟨Int.natCast_nonneg _, by simp only [List.length_set, hlen2]; exact h, _, set_get _ _ _ (by simp only [List.length_set, hlen2]; omega), ?_⟩
      refine ⟨[.muts 1, .ro], .int .i64 (k + (cntS GLibMod.w (l.take i) : Int) + 1 + cntS GByte.w l[i].b), [some (.ow 1 (GByte.ows (markS GByte.mark GByte.w l[i].b (k + (cntS GLibMod.w (l.take i) : Int) + 1)))), none], by (try simp (disch := omega) only [w64]); exact mark_ByteS l[i].b (k + (cntS GLibMod.w (l.take i) : Int) + 1) (by omega) (by omega) f1.1, trivial, ?_⟩
      refine ⟨⟨i + 1, by omega⟩, by dsimp only; omega, congrArg (AV.int .i64) ?_, congrArg (AV.int .i64) e4, rfl, .of_eq ?_, trivial⟩
      · (try simp (disch := omega) only [w64]); omega
      · rw [← marking_set _ _ _ _ _ hi, List.map_set]
        simp (disch := omega) only [w64, u8w, modify_set_all, List.set_set, GLibMod.mark]
        try rfl
    · refine ⟨.i64 ?_, .of_eq (congrArg (AV.ow 2) ?_), trivial⟩
      · rw [List.take_of_length_le (by omega)]
      · rw [marking_all _ _ _ _ _ (by omega)]
theorem held_LibModS (l : List GLibMod) (k : Int) (h0 : 0 ≤ k) (hk : k + cntS GLibMod.w l ≤ 1152921504606846976) (hl : l.length ≤ 1099511627776) (hf : ∀ x ∈ l, GLibMod.fit x) :
    Con 103 [.ro 2 (GLibMod.ros (markS GLibMod.mark GLibMod.w l k)), .int .i64 k] (.int .i64 (k + cntS GLibMod.w l)) [none, none] := by
  rw [GLibMod.ros_eq]
  refine con Tryz.func103 ?_
  refine ⟨{ i : Nat // i ≤ l.length }, fun i => ⟨[(0, .ro 2 ((markS GLibMod.mark GLibMod.w l k).map GLibMod.ro)), (1, .int .i64 (k + cntS GLibMod.w (l.take i.1))), (5, .int .i64 i.1)], []⟩, fun i => l.length - i.1, ⟨0, by omega⟩, ?_, ?_⟩
  · refine ⟨rfl, congrArg (AV.int .i64) ?_, rfl, trivial⟩
    simp [cntS]
  · rintro ⟨i, hi⟩
    have hlen := markS_len GLibMod.mark GLibMod.w l k
    have hlen2 : ((markS GLibMod.mark GLibMod.w l k).map GLibMod.ro).length = l.length := by rw [List.length_map, hlen]
    dsimp only
    refine ⟨fun h => ?_, fun h => ?_⟩ <;> simp only [hlen2, decide_eq_true_eq, decide_eq_false_iff_not] at h
    · have hi : i < l.length := by omega
      have hc := cntS_take_succ GLibMod.w l i hi
      have hc2 := cntS_take_le GLibMod.w l (i + 1)
      have : GLibMod.w l[i] = 1 + cntS GByte.w l[i].b := rfl
      have f1 := GLibMod.fit_un (hf _ (List.getElem_mem hi))
      have hg : ((markS GLibMod.mark GLibMod.w l k).map GLibMod.ro)[i]? = some (GLibMod.ro (GLibMod.mark l[i] (k + cntS GLibMod.w (l.take i)))) := by
        rw [map_get _ _ (by omega), markS_get _ _ _ _ _ hi]
      have e4 : IntKind.wrap .i64 ((i : Int) + 1) = ((i + 1 : Nat) : Int) := w64 (by omega) (by omega)
      refine ⟨Int.natCast_nonneg _, _, hg, ?_⟩
      refine ⟨[.ro], .str (mtext (k + (cntS GLibMod.w (l.take i) : Int))), [none], by (try simp (disch := omega) only [w64]); exact markText_ok (k + (cntS GLibMod.w (l.take i) : Int)) (by omega) (by omega), trivial, ?_⟩
      refine ⟨rfl, fun h => absurd rfl (of_decide_eq_true h), fun h => ?_⟩
      refine ⟨Int.natCast_nonneg _, _, hg, ?_⟩
      refine ⟨[.ro, .ro], .int .i64 (k + (cntS GLibMod.w (l.take i) : Int) + 1 + cntS GByte.w l[i].b), [none, none], by (try simp (disch := omega) only [w64]); exact held_ByteS l[i].b (k + (cntS GLibMod.w (l.take i) : Int) + 1) (by omega) (by omega) f1.1, trivial, ?_⟩
      refine ⟨fun h => ?_, fun h => ?_⟩ <;> simp only [decide_eq_true_eq, decide_eq_false_iff_not] at h
      · omega
      refine ⟨⟨i + 1, by omega⟩, by dsimp only; omega, rfl, congrArg (AV.int .i64) ?_, congrArg (AV.int .i64) e4, trivial⟩
      (try simp (disch := omega) only [w64]); omega
    · refine ⟨.i64 ?_, trivial⟩
      rw [List.take_of_length_le (by omega)]
def GLib.outs (a : GLib) (k : Int) : List AV := [.ow 2 (GLibMod.ows (markS GLibMod.mark GLibMod.w a.mods (k)))]
def GLib.tw (a : GLib) : Nat := cntS GLibMod.w a.mods
theorem GLib.tw4 (a : GLib) : GLib.tw a ≤ 4 * GLib.bulk a := by
  have := cnt4 GLibMod.w GLibMod.bulk a.mods fun y _ => GLibMod.w4 y
  have h1 : GLib.tw a = cntS GLibMod.w a.mods := rfl
  have h2 := GLib.bulk_un a
  omega
theorem mark_Lib (a : GLib) (k : Int) (h0 : 0 ≤ k) (hk : k + GLib.tw a ≤ 1152921504606846976) (hf : GLib.fit a) : Con 17 [.agg (GLib.ow a), .int .i64 k] (.int .i64 (k + GLib.tw a)) [some (.agg (GLib.outs a k)), none] := by
  refine con Tryz.func17 ?_
  have ht : GLib.tw a = cntS GLibMod.w a.mods := rfl
  have f1 := GLib.fit_un hf
  refine ⟨[.muts 2, .ro], .int .i64 (k + cntS GLibMod.w a.mods), [some (.ow 2 (GLibMod.ows (markS GLibMod.mark GLibMod.w a.mods (k)))), none], mark_LibModS a.mods (k) (by omega) (by omega) f1.1 f1.2, trivial, ?_⟩
  refine ⟨.i64 (by omega), .refl _, trivial⟩
theorem held_Lib (a : GLib) (k : Int) (h0 : 0 ≤ k) (hk : k + GLib.tw a ≤ 1152921504606846976) (hf : GLib.fit a) : Con 42 [.agg (toRoL (GLib.outs a k)), .int .i64 k] (.int .i64 (k + GLib.tw a)) [none, none] := by
  simp only [GLib.outs, toRoL, toRo, GLibMod.toRo_ows (markS GLibMod.mark GLibMod.w a.mods (k)) fun y _ => GLibMod.toRo_ow y]
  refine con Tryz.func42 ?_
  have ht : GLib.tw a = cntS GLibMod.w a.mods := rfl
  have f1 := GLib.fit_un hf
  refine ⟨[.ro, .ro], .int .i64 (k + cntS GLibMod.w a.mods), [none, none], held_LibModS a.mods (k) (by omega) (by omega) f1.1 f1.2, trivial, ?_⟩
  refine ⟨fun h => absurd (of_decide_eq_true h) (by omega), fun h => ?_⟩
  refine ⟨.i64 (by omega), trivial⟩
def GMach.outs (a : GMach) (k : Int) : List AV := [.ow 1 (GInt.ows (markS GInt.mark GInt.w a.mem (k))), .ow 1 (GInt.ows (markS GInt.mark GInt.w a.r (k + cntS GInt.w a.mem))), .bool a.n, .bool a.z, .bool a.v, .bool a.c, .ow 1 (GInt.ows (markS GInt.mark GInt.w a.inp (k + cntS GInt.w a.mem + cntS GInt.w a.r))), .ow 1 (GInt.ows (markS GInt.mark GInt.w a.out (k + cntS GInt.w a.mem + cntS GInt.w a.r + cntS GInt.w a.inp))), .int .i64 a.stop]
def GMach.tw (a : GMach) : Nat := cntS GInt.w a.mem + cntS GInt.w a.r + cntS GInt.w a.inp + cntS GInt.w a.out
theorem GMach.tw4 (a : GMach) : GMach.tw a ≤ 4 * GMach.bulk a := by
  have := cnt4 GInt.w GInt.bulk a.mem fun y _ => GInt.w4 y
  have := cnt4 GInt.w GInt.bulk a.r fun y _ => GInt.w4 y
  have := cnt4 GInt.w GInt.bulk a.inp fun y _ => GInt.w4 y
  have := cnt4 GInt.w GInt.bulk a.out fun y _ => GInt.w4 y
  have h1 : GMach.tw a = cntS GInt.w a.mem + cntS GInt.w a.r + cntS GInt.w a.inp + cntS GInt.w a.out := rfl
  have h2 := GMach.bulk_un a
  omega
end Go.Proofs.VI
