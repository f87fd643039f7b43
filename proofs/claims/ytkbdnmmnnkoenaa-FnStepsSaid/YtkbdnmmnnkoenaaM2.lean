/- Contracts of functions, and what they rest on: l04code. -/
import Derived.Test.YtkbdnmmnnkoenaaM1
set_option linter.unusedVariables false
set_option linter.unusedSimpArgs false
set_option maxRecDepth 10000
set_option maxHeartbeats 4000000
namespace Go.Proofs.VI
open Go
def freeV (op : Int) : Int := if inI op 1 6 = true then 4095 else if op = 15 then 511 else if inI op 1 15 = true then 63 else if op = 16 then 7 else if (inI op 17 21 || decide (op = 23)) = true then 255 else 0
def matchB (w op : Int) : Bool := decide (w - w % (freeV op + 1) = baseV op)
def opV (w : Int) : Int := match (List.range 23).find? (fun i => matchB w ((i + 1 : Nat) : Int)) with | some i => ((i + 1 : Nat) : Int) | none => 0
theorem and_free (w op : Int) (h0 : 0 ≤ w) (h1 : w ≤ 65535) : bitsI .andNot .i64 w (freeV op) = w - w % (freeV op + 1) := by
  rw [freeV]
  split
  · exact andNot_mask w h0 h1 12 (by decide)
  · split
    · exact andNot_mask w h0 h1 9 (by decide)
    · split
      · exact andNot_mask w h0 h1 6 (by decide)
      · split
        · exact andNot_mask w h0 h1 3 (by decide)
        · split
          · exact andNot_mask w h0 h1 8 (by decide)
          · exact andNot_mask w h0 h1 0 (by decide)
theorem opV_hit (w : Int) (i : Nat) (h : 1 ≤ i) (hi : i < 24) (ha : ∀ j : Nat, 1 ≤ j → j < i → matchB w j = false) (hs : matchB w i = true) : opV w = i := by
  have hl : i - 1 < (List.range 23).length := by simp; omega
  rw [opV, find_hit (fun i : Nat => matchB w ((i + 1 : Nat) : Int)) (List.range 23) (i - 1) hl (fun j hj hlt => by
    have := ha (j + 1) (by omega) (by omega)
    simpa using this) (by
    rw [List.getElem_range, show i - 1 + 1 = i by omega]; exact hs)]
  simp only [List.getElem_range]
  omega
theorem opV_miss (w : Int) (ha : ∀ j : Nat, 1 ≤ j → j < 24 → matchB w j = false) : opV w = 0 := by
  rw [opV, find_miss (fun i : Nat => matchB w ((i + 1 : Nat) : Int)) (List.range 23) (fun j hj => by
    have := ha (j + 1) (by omega) (by simp at hj; omega)
    simpa using this)]
theorem impl_opOf (w : Int) (h0 : 0 ≤ w) (h1 : w ≤ 65535) : Con 64 [.int .i64 w] (.int .i64 (opV w)) [none] := by
  refine con Try.func64 ?_
  refine ⟨{ i : Nat // 1 ≤ i ∧ i ≤ 24 ∧ ∀ j : Nat, 1 ≤ j → j < i → matchB w j = false }, fun i => ⟨[(0, .int .i64 w), (3, .int .i64 i.1)], []⟩, fun i => 24 - i.1, ⟨1, Nat.le_refl _, by decide, fun j h2 h3 => by omega⟩, ?_, ?_⟩
  · exact ⟨rfl, rfl, trivial⟩
  · rintro ⟨i, hi1, hi2, hb⟩
    dsimp only
    refine ⟨fun h => ?_, fun h => ⟨.of_eq (congrArg (AV.int .i64) ?_), trivial⟩⟩ <;> simp only [decide_eq_true_eq, decide_eq_false_iff_not] at h
    · have hlt : i < 24 := by omega
      have hf := and_free w i h0 h1
      have good : matchB w i = false → ∀ j : Nat, 1 ≤ j → j < i + 1 → matchB w j = false := fun g j g1 g2 => by
        rcases Nat.lt_or_ge j i with g3 | g3
        · exact hb j g1 g3
        · rw [show j = i by omega]; exact g
      have bad : matchB w i = true → (i : Int) = opV w := fun g => (opV_hit w i hi1 hlt hb g).symm
      repeat' (first | refine And.intro (fun (h : _ = true) => ?_) (fun (h : _ = false) => ?_) | refine And.intro (fun (h : _ = false) => ?_) (fun (h : _ = true) => ?_) | refine And.intro (show regOk _ _ = true from by kernel_rfl) ?_ | refine And.intro (Sim.of_eq (congrArg (AV.int .i64) ?_)) trivial | (refine ⟨⟨i + 1, by omega, by omega, good ?_⟩, (by dsimp only; omega), ?wk⟩; case wk => (repeat' (first | exact trivial | (refine And.intro (congrArg (AV.int .i64) (w64 ?_ ?_)) ?_; omega; omega) | refine And.intro rfl ?_ | refine And.intro (SimRows.refl _) ?_ | (refine And.intro (SimRows.of_eq ?_) ?_; (first | assumption | rfl)) | (refine And.intro (congrArg (AV.int .i64) ?_) ?_; (first | assumption | omega)) | fail)); done) | refine ⟨[.ro], .bool _, [none], impl_hasSrc (i : Int), (by first | exact trivial | exact ⟨trivial, trivial⟩ | exact ⟨GByte.nro _, trivial⟩ | exact ⟨GExpr.noRo_ow _, trivial⟩ | exact ⟨GExpr.nro _, trivial⟩ | exact ⟨GInt.nro _, trivial⟩ | exact ⟨GString.nro _, trivial⟩), ?_⟩ | refine ⟨[.ro], .bool _, [none], impl_hasDst (i : Int), (by first | exact trivial | exact ⟨trivial, trivial⟩ | exact ⟨GByte.nro _, trivial⟩ | exact ⟨GExpr.noRo_ow _, trivial⟩ | exact ⟨GExpr.nro _, trivial⟩ | exact ⟨GInt.nro _, trivial⟩ | exact ⟨GString.nro _, trivial⟩), ?_⟩ | refine ⟨[.ro], .bool _, [none], impl_isBranch (i : Int), (by first | exact trivial | exact ⟨trivial, trivial⟩ | exact ⟨GByte.nro _, trivial⟩ | exact ⟨GExpr.noRo_ow _, trivial⟩ | exact ⟨GExpr.nro _, trivial⟩ | exact ⟨GInt.nro _, trivial⟩ | exact ⟨GString.nro _, trivial⟩), ?_⟩ | refine ⟨[.ro], .int .i64 _, [none], impl_baseOf (i : Int) (by omega) (by omega), (by first | exact trivial | exact ⟨trivial, trivial⟩ | exact ⟨GByte.nro _, trivial⟩ | exact ⟨GExpr.noRo_ow _, trivial⟩ | exact ⟨GExpr.nro _, trivial⟩ | exact ⟨GInt.nro _, trivial⟩ | exact ⟨GString.nro _, trivial⟩), ?_⟩ | fail)
      all_goals clear good hb
      all_goals first
        | (refine bad ?_; clear bad; simp_all [matchB, freeV]; done)
        | (clear bad; simp_all [matchB, freeV]; done)
    · exact (opV_miss w fun j h2 h3 => hb j h2 (by omega)).symm
theorem shr_k (n : Int) (k : Nat) (hk : k ≤ 64) : shrI .i64 n k = n / ((2 ^ k : Nat) : Int) := by
  show n.fdiv (2 ^ min ((k : Nat) : Int).toNat 64) = _
  rw [Int.toNat_natCast, Nat.min_eq_left hk, Int.fdiv_eq_ediv_of_nonneg _ (Int.le_of_lt (Int.pow_pos (by decide)))]
  push_cast; rfl
theorem shr_9 (n : Int) : shrI .i64 n 9 = n / 512 := shr_k n 9 (by decide)
theorem shr_6 (n : Int) : shrI .i64 n 6 = n / 64 := shr_k n 6 (by decide)
theorem shr_3 (n : Int) : shrI .i64 n 3 = n / 8 := shr_k n 3 (by decide)
theorem and_7 (n : Int) : bitsI .and .i64 n 7 = n % 8 := and_mask n 3 (by decide)
def relN (w : Int) : Int := if w % 256 > 127 then w % 256 - 256 else w % 256
def numV (w op : Int) : Int := if op = 15 then w / 64 % 8 else if op = 16 then w % 8 else if op = 23 then w % 256 else if inI op 17 21 = true then relN w else 0
def insV (w op : Int) : GIns := ⟨op, if inI op 1 6 = true then ⟨w / 512 % 8, w / 64 % 8, 0⟩ else zOpd, if inI op 1 15 = true then ⟨w / 8 % 8, w % 8, 0⟩ else zOpd, numV w op⟩
theorem impl_insOf (w op : Int) : Con 65 [.int .i64 w, .int .i64 op] (.agg (GIns.ow (insV w op))) [none, none] := by
  refine con Try.func65 ?_
  have hw : w % 256 > 127 → IntKind.wrap .i64 (w % 256 - 256) = w % 256 - 256 := fun h => w64 (by omega) (by omega)
  repeat' (first | refine And.intro (fun (h : _ = true) => ?_) (fun (h : _ = false) => ?_) | refine And.intro (fun (h : _ = false) => ?_) (fun (h : _ = true) => ?_) | refine And.intro (show regOk _ _ = true from by kernel_rfl) ?_ | refine And.intro (Sim.of_eq ?_) trivial | refine ⟨[.ro], .bool _, [none], impl_hasSrc op, (by first | exact trivial | exact ⟨trivial, trivial⟩ | exact ⟨GByte.nro _, trivial⟩ | exact ⟨GExpr.noRo_ow _, trivial⟩ | exact ⟨GExpr.nro _, trivial⟩ | exact ⟨GInt.nro _, trivial⟩ | exact ⟨GString.nro _, trivial⟩), ?_⟩ | refine ⟨[.ro], .bool _, [none], impl_hasDst op, (by first | exact trivial | exact ⟨trivial, trivial⟩ | exact ⟨GByte.nro _, trivial⟩ | exact ⟨GExpr.noRo_ow _, trivial⟩ | exact ⟨GExpr.nro _, trivial⟩ | exact ⟨GInt.nro _, trivial⟩ | exact ⟨GString.nro _, trivial⟩), ?_⟩ | refine ⟨[.ro], .bool _, [none], impl_isBranch op, (by first | exact trivial | exact ⟨trivial, trivial⟩ | exact ⟨GByte.nro _, trivial⟩ | exact ⟨GExpr.noRo_ow _, trivial⟩ | exact ⟨GExpr.nro _, trivial⟩ | exact ⟨GInt.nro _, trivial⟩ | exact ⟨GString.nro _, trivial⟩), ?_⟩ | refine And.intro (show (0 : Int) ≤ 9 from by decide) ?_ | refine And.intro (show (0 : Int) ≤ 6 from by decide) ?_ | refine And.intro (show (0 : Int) ≤ 3 from by decide) ?_ | fail)
  all_goals try simp only [shr_9, shr_6, shr_3, and_7, and_255] at *
  all_goals simp_all [insV, numV, relN, GIns.ro, zOpd]
  all_goals (intro _; omega)
theorem GIns.ext' {a b : GIns} (h : GIns.ro a = GIns.ro b) : a = b := by
  cases a; cases b
  rename_i o1 s1 d1 n1 o2 s2 d2 n2
  cases s1; cases d1; cases s2; cases d2
  simp [GIns.ro] at h
  simp [h]
def wordsP (l : List Int) : Prop := ∀ x ∈ l, 0 ≤ x ∧ x ≤ 65535
theorem wordsP_at {l : List Int} (h : wordsP l) (i : Nat) (hi : i < l.length) : 0 ≤ l[i] ∧ l[i] ≤ 65535 := h _ (List.getElem_mem hi)
noncomputable def wordsB (l : List Int) : Bool := dec (wordsP l)
theorem int_row {l : List Int} {i : Nat} (h : i < l.length) : (GInt.ros l)[i]? = some (GInt.ro l[i]) := map_get _ _ h
theorem inI_t {x lo hi : Int} (h : lo ≤ x ∧ x ≤ hi) : inI x lo hi = true := by simp [inI, h]
theorem inI_f {x lo hi : Int} (h : ¬ (lo ≤ x ∧ x ≤ hi)) : inI x lo hi = false := by simp [inI]; omega
theorem impl_wordsOk (l : List Int) (hl : l.length ≤ 1099511627776) : Con 38 [.ro 1 (GInt.ros l)] (.bool (wordsB l)) [none] := by
  have hlen : (GInt.ros l).length = l.length := by simp
  refine con Try.func38 ?_
  refine ⟨{ i : Nat // i ≤ l.length ∧ ∀ j (h : j < l.length), j < i → 0 ≤ l[j] ∧ l[j] ≤ 65535 }, fun i => ⟨[(5, .ro 1 (GInt.ros l)), (6, .int .i64 l.length), (7, .int .i64 i.1)], []⟩, fun i => l.length - i.1, ⟨0, Nat.zero_le _, fun j h h2 => absurd h2 (Nat.not_lt_zero _)⟩, ?_, ?_⟩
  · exact ⟨rfl, congrArg (AV.int .i64) (by rw [hlen]), rfl, trivial⟩
  · rintro ⟨i, hi, ha⟩
    dsimp only
    refine ⟨fun h => ?_, fun h => ⟨.of_eq (congrArg AV.bool ?_), trivial⟩⟩ <;> simp only [decide_eq_true_eq, decide_eq_false_iff_not] at h
    · have hi : i < l.length := by omega
      refine ⟨Int.natCast_nonneg _, _, int_row hi, ?_⟩
      refine ⟨[.ro], .bool (inI l[i] 0 65535), [none], impl_isWord _, trivial, fun h => ⟨.of_eq (congrArg AV.bool ?_), trivial⟩, fun h => ?_⟩ <;> simp only [Bool.not_eq_true', Bool.not_eq_false'] at h
      · exact (dec_false fun x => inI_false.1 h (x _ (List.getElem_mem hi))).symm
      · exact ⟨⟨i + 1, hi, fun j h1 hj => le_succ (q := fun j => ∀ hj : j < l.length, 0 ≤ l[j] ∧ l[j] ≤ 65535) (fun j hj h2 => ha j h2 hj) (fun _ => inI_true.1 h) j hj h1⟩, Nat.sub_succ_lt_self _ _ hi, (by (repeat' (first | exact trivial | (refine And.intro (congrArg (AV.int .i64) (w64 ?_ ?_)) ?_; omega; omega) | refine And.intro rfl ?_ | refine And.intro (SimRows.refl _) ?_ | (refine And.intro (SimRows.of_eq ?_) ?_; (first | assumption | rfl)) | (refine And.intro (congrArg (AV.int .i64) ?_) ?_; (first | assumption | omega)) | fail)); done)⟩
    · refine (dec_true fun x hx => ?_).symm
      obtain ⟨j, hj, rfl⟩ := List.mem_iff_getElem.1 hx
      exact ha j hj (by omega)
theorem spec_l5Words (l : List Int) (hl : l.length ≤ 1099511627776) : Con 59 [.ro 1 (GInt.ros l)] (.bool (wordsB l)) [none] := by
  have hlen : (GInt.ros l).length = l.length := by simp
  refine con Try.func59 ?_
  refine ⟨{ i : Nat // i ≤ l.length ∧ ∀ j (h : j < l.length), j < i → 0 ≤ l[j] ∧ l[j] ≤ 65535 }, fun i => ⟨[(0, .ro 1 (GInt.ros l)), (3, .int .i64 i.1)], []⟩, fun i => l.length - i.1, ⟨0, Nat.zero_le _, fun j h h2 => absurd h2 (Nat.not_lt_zero _)⟩, ?_, ?_⟩
  · exact ⟨rfl, rfl, trivial⟩
  · rintro ⟨i, hi, ha⟩
    dsimp only
    refine ⟨fun h => ?_, fun h => ⟨.of_eq (congrArg AV.bool ?_), trivial⟩⟩ <;> simp only [hlen, decide_eq_true_eq, decide_eq_false_iff_not] at h
    · have hi : i < l.length := by omega
      refine ⟨Int.natCast_nonneg _, _, int_row hi, ?_⟩
      refine ⟨[.ro, .ro, .ro], .bool (inI l[i] 0 65535), [none, none, none], spec_l1In _ _ _, trivial, fun h => ⟨.of_eq (congrArg AV.bool ?_), trivial⟩, fun h => ?_⟩ <;> simp only [Bool.not_eq_true', Bool.not_eq_false'] at h
      · exact (dec_false fun x => inI_false.1 h (x _ (List.getElem_mem hi))).symm
      · exact ⟨⟨i + 1, hi, fun j h1 hj => le_succ (q := fun j => ∀ hj : j < l.length, 0 ≤ l[j] ∧ l[j] ≤ 65535) (fun j hj h2 => ha j h2 hj) (fun _ => inI_true.1 h) j hj h1⟩, Nat.sub_succ_lt_self _ _ hi, (by (repeat' (first | exact trivial | (refine And.intro (congrArg (AV.int .i64) (w64 ?_ ?_)) ?_; omega; omega) | refine And.intro rfl ?_ | refine And.intro (SimRows.refl _) ?_ | (refine And.intro (SimRows.of_eq ?_) ?_; (first | assumption | rfl)) | (refine And.intro (congrArg (AV.int .i64) ?_) ?_; (first | assumption | omega)) | fail)); done)⟩
    · refine (dec_true fun x hx => ?_).symm
      obtain ⟨j, hj, rfl⟩ := List.mem_iff_getElem.1 hx
      exact ha j hj (by omega)
def srcX (x : GIns) : Bool := inI x.op 1 6 && hasX x.src
def dstX (x : GIns) : Bool := inI x.op 1 15 && hasX x.dst
def setS (x : GIns) (v : Int) : GIns := ⟨x.op, ⟨x.src.mode, x.src.reg, v⟩, x.dst, x.n⟩
def setD (x : GIns) (v : Int) : GIns := ⟨x.op, x.src, ⟨x.dst.mode, x.dst.reg, v⟩, x.n⟩
def withX (l : List Int) (p : Nat) (x : GIns) : GIns :=
  if srcX x = true then (if dstX x = true then setD (setS x (l.getD (p + 1) 0)) (l.getD (p + 2) 0) else setS x (l.getD (p + 1) 0)) else if dstX x = true then setD x (l.getD (p + 1) 0) else x
def decV (l : List Int) (p : Nat) : Option (GIns × Int) :=
  if opV (l.getD p 0) = 0 then none else if wordsV (insV (l.getD p 0) (opV (l.getD p 0))) > l.length - p then none else some (withX l p (insV (l.getD p 0) (opV (l.getD p 0))), wordsV (insV (l.getD p 0) (opV (l.getD p 0))))
def gD (x : Option (GIns × Int)) : AV := match x with
  | some (x, n) => .tup [.agg (GIns.ow x), .int .i64 n, .bool true]
  | none => .tup [.agg (GIns.ow ⟨0, zOpd, zOpd, 0⟩), .int .i64 0, .bool false]
theorem getD_at {l : List Int} {i : Nat} (h : i < l.length) : l.getD i 0 = l[i] := by
  rw [List.getD_eq_getElem?_getD, List.getElem?_eq_getElem h]; rfl
theorem int_sub (l : List Int) (a b : Nat) : ((GInt.ros l).drop a).take b = GInt.ros ((l.drop a).take b) := by
  simp only [GInt.ros_eq, List.map_take, List.map_drop]
theorem wordsP_sub {l : List Int} (h : wordsP l) (a b : Nat) : wordsB ((l.drop a).take b) = true := dec_true fun x hx => h x (List.mem_of_mem_drop (List.mem_of_mem_take hx))
theorem wordsV_eq (x : GIns) : wordsV x = 1 + (if srcX x = true then 1 else 0) + (if dstX x = true then 1 else 0) := rfl
theorem impl_Decode (l : List Int) (p : Nat) (hl : l.length ≤ 1099511627776) (hw : wordsP l) (hp : p < l.length) : Con 42 [.ro 1 (GInt.ros l), .int .i64 p] (gD (decV l p)) [none, none] := by
  refine con Try.func42 ?_
  have hlen : (GInt.ros l).length = l.length := by simp
  have e1 : IntKind.wrap .i64 (((GInt.ros l).length : Int) - 1) = (l.length : Int) - 1 := by rw [hlen]; exact w64 (by omega) (by omega)
  have hr := int_row hp
  have hwp := wordsP_at hw p hp
  have c1 : Con 44 [.int .i64 p, .int .i64 0, .int .i64 ((l.length : Int) - 1)] (.bool true) [none, none, none] := by have := impl_within p 0 ((l.length : Int) - 1); rwa [inI_t (by omega)] at this
  have c2 : Con 39 [.int .i64 l[p]] (.bool true) [none] := by have := impl_isWord l[p]; rwa [inI_t hwp] at this
  refine ⟨[.ro, .ro, .ro], .tt, [none, none, none], (by rw [e1]; exact c1), trivial, ?_⟩
  refine ⟨Int.natCast_nonneg _, _, hr, [.ro], .tt, [none], c2, trivial, ?_⟩
  refine ⟨Int.natCast_nonneg _, _, hr, [.ro], .int .i64 (opV l[p]), [none], impl_opOf l[p] hwp.1 hwp.2, trivial, ?_⟩
  refine ⟨fun h => ⟨?_, trivial⟩, fun h => ?_⟩ <;> simp only [decide_eq_true_eq, decide_eq_false_iff_not] at h
  · rw [decV, getD_at hp, if_pos h]; exact .refl _
  · refine ⟨Int.natCast_nonneg _, _, hr, [.ro, .ro], .agg (GIns.ow (insV l[p] (opV l[p]))), [none, none], impl_insOf l[p] (opV l[p]), trivial, ?_⟩
    have hD : decV l p = if wordsV (insV l[p] (opV l[p])) > l.length - p then none else some (withX l p (insV l[p] (opV l[p])), wordsV (insV l[p] (opV l[p]))) := by rw [decV, getD_at hp, if_neg h]
    have hop : (insV l[p] (opV l[p])).op = opV l[p] := rfl
    generalize opV l[p] = op at h hD hop ⊢
    generalize insV l[p] op = x at hD hop ⊢
    subst hop
    refine ⟨[.ro], .int .i64 (wordsV x), [none], impl_Words x, trivial, ?_⟩
    have hv := wordsV_eq x
    have hv3 : 1 ≤ wordsV x ∧ wordsV x ≤ 3 := by rw [hv]; split <;> split <;> omega
    have e2 : IntKind.wrap .i64 (((GInt.ros l).length : Int) - p) = (l.length : Int) - p := by rw [hlen]; exact w64 (by omega) (by omega)
    have e3 : IntKind.wrap .i64 ((p : Int) + wordsV x) = (p : Int) + wordsV x := w64 (by omega) (by omega)
    refine ⟨fun h2 => ?_, fun h2 => ⟨?_, trivial⟩⟩ <;> simp only [e2, decide_eq_true_eq, decide_eq_false_iff_not] at h2
    · refine ⟨Int.natCast_nonneg _, by rw [e3]; omega, by rw [e3, hlen]; omega, [.ro], .tt, [none], ?_, trivial, ?_⟩
      · rw [int_sub]
        have := impl_wordsOk ((l.drop ((p : Int)).toNat).take ((IntKind.wrap .i64 ((p : Int) + wordsV x)).toNat - ((p : Int)).toNat)) (by simp; omega)
        rwa [wordsP_sub hw] at this
      · rw [hD, if_neg (by omega)]
        have r1 : p + 1 < l.length → 0 ≤ IntKind.wrap .i64 ((p : Int) + 1) ∧ (GInt.ros l)[(IntKind.wrap .i64 ((p : Int) + 1)).toNat]? = some [.int .i64 (l.getD (p + 1) 0)] := fun g => by
          rw [w64 (by omega) (by omega)]
          exact ⟨by omega, by rw [show ((p : Int) + 1).toNat = p + 1 by omega, int_row g, getD_at g]; rfl⟩
        have r2 : p + 2 < l.length → 0 ≤ IntKind.wrap .i64 (IntKind.wrap .i64 ((p : Int) + 1) + 1) ∧ (GInt.ros l)[(IntKind.wrap .i64 (IntKind.wrap .i64 ((p : Int) + 1) + 1)).toNat]? = some [.int .i64 (l.getD (p + 2) 0)] := fun g => by
          rw [w64 (x := (p : Int) + 1) (by omega) (by omega), w64 (by omega) (by omega)]
          exact ⟨by omega, by rw [show ((p : Int) + 1 + 1).toNat = p + 2 by omega, int_row g, getD_at g]; rfl⟩
        clear hD c1 c2 e1 e2 e3 hr hwp
        have c3 := impl_hasSrc x.op
        have c4 := impl_hasDst x.op
        have c5 := impl_HasX x.src
        have c6 := impl_HasX x.dst
        cases h3 : srcX x <;> cases h4 : dstX x <;> rw [h3, h4] at hv <;> simp only [Bool.false_eq_true, if_false, if_true] at hv
        · repeat' (first | refine And.intro (fun (h : _ = true) => ?_) (fun (h : _ = false) => ?_) | refine And.intro (fun (h : _ = false) => ?_) (fun (h : _ = true) => ?_) | refine And.intro (show regOk _ _ = true from by kernel_rfl) ?_ | refine And.intro (Sim.of_eq ?_) trivial | refine ⟨[.ro], .bool _, [none], c3, trivial, ?_⟩ | refine ⟨[.ro], .bool _, [none], c4, trivial, ?_⟩ | refine ⟨[.ro], .bool _, [none], c5, trivial, ?_⟩ | refine ⟨[.ro], .bool _, [none], c6, trivial, ?_⟩ | fail)
          all_goals clear c3 c4 c5 c6 r1 r2
          all_goals first
            | (exfalso; simp_all [srcX, dstX]; done)
            | (simp only [withX, h3, h4]; rfl)
        · obtain ⟨r1, r1'⟩ := r1 (by omega)
          repeat' (first | refine And.intro (fun (h : _ = true) => ?_) (fun (h : _ = false) => ?_) | refine And.intro (fun (h : _ = false) => ?_) (fun (h : _ = true) => ?_) | refine And.intro (show regOk _ _ = true from by kernel_rfl) ?_ | refine And.intro (Sim.of_eq ?_) trivial | refine ⟨[.ro], .bool _, [none], c3, trivial, ?_⟩ | refine ⟨[.ro], .bool _, [none], c4, trivial, ?_⟩ | refine ⟨[.ro], .bool _, [none], c5, trivial, ?_⟩ | refine ⟨[.ro], .bool _, [none], c6, trivial, ?_⟩ | refine ⟨r1, _, r1', ?_⟩ | fail)
          all_goals clear c3 c4 c5 c6 r1 r1' r2
          all_goals first
            | (exfalso; simp_all [srcX, dstX]; done)
            | (simp only [withX, h3, h4]; rfl)
        · obtain ⟨r1, r1'⟩ := r1 (by omega)
          repeat' (first | refine And.intro (fun (h : _ = true) => ?_) (fun (h : _ = false) => ?_) | refine And.intro (fun (h : _ = false) => ?_) (fun (h : _ = true) => ?_) | refine And.intro (show regOk _ _ = true from by kernel_rfl) ?_ | refine And.intro (Sim.of_eq ?_) trivial | refine ⟨[.ro], .bool _, [none], c3, trivial, ?_⟩ | refine ⟨[.ro], .bool _, [none], c4, trivial, ?_⟩ | refine ⟨[.ro], .bool _, [none], c5, trivial, ?_⟩ | refine ⟨[.ro], .bool _, [none], c6, trivial, ?_⟩ | refine ⟨r1, _, r1', ?_⟩ | fail)
          all_goals clear c3 c4 c5 c6 r1 r1' r2
          all_goals first
            | (exfalso; simp_all [srcX, dstX]; done)
            | (simp only [withX, h3, h4]; rfl)
        · obtain ⟨r1, r1'⟩ := r1 (by omega)
          obtain ⟨r2, r2'⟩ := r2 (by omega)
          repeat' (first | refine And.intro (fun (h : _ = true) => ?_) (fun (h : _ = false) => ?_) | refine And.intro (fun (h : _ = false) => ?_) (fun (h : _ = true) => ?_) | refine And.intro (show regOk _ _ = true from by kernel_rfl) ?_ | refine And.intro (Sim.of_eq ?_) trivial | refine ⟨[.ro], .bool _, [none], c3, trivial, ?_⟩ | refine ⟨[.ro], .bool _, [none], c4, trivial, ?_⟩ | refine ⟨[.ro], .bool _, [none], c5, trivial, ?_⟩ | refine ⟨[.ro], .bool _, [none], c6, trivial, ?_⟩ | refine ⟨r1, _, r1', ?_⟩ | refine ⟨r2, _, r2', ?_⟩ | fail)
          all_goals clear c3 c4 c5 c6 r1 r1' r2 r2'
          all_goals first
            | (exfalso; simp_all [srcX, dstX]; done)
            | (simp only [withX, h3, h4]; rfl)
    · rw [hD, if_pos (by omega)]; exact .refl _
end Go.Proofs.VI
