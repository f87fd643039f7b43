/- Contracts of functions, and what they rest on: l03ins. -/
import Derived.Test.YtkbdnmmnnkoenaaA4
import Derived.Test.YtkbdnmmnnkoenaaA1
set_option linter.unusedVariables false
set_option linter.unusedSimpArgs false
set_option maxRecDepth 10000
set_option maxHeartbeats 4000000
namespace Go.Proofs.VI
open Go
theorem split_mask (x : BitVec 64) (k : Nat) (hk : k ≤ 62) : ((x &&& ~~~ BitVec.ofInt 64 ((2 ^ k - 1 : Nat) : Int)).toNat : Int) = x.toNat - x.toNat % ((2 ^ k : Nat) : Int) := by
  have hp : (2 : Nat) ^ k ≤ 2 ^ 62 := Nat.pow_le_pow_right (by decide) hk
  have e2 : (BitVec.ofInt 64 ((2 ^ k - 1 : Nat) : Int)).toNat = 2 ^ k - 1 := by
    rw [BitVec.toNat_ofInt, Int.emod_eq_of_lt (by omega) (by have : (2 : Nat) ^ 62 < 2 ^ 64 := by decide
                                                             omega)]
    omega
  generalize hm : BitVec.ofInt 64 ((2 ^ k - 1 : Nat) : Int) = m at e2
  have h1 : (x &&& m) + (x &&& ~~~m) = x := by
    rw [BitVec.add_eq_or_of_and_eq_zero]
    · ext i hi; simp; cases x[i] <;> cases m[i] <;> rfl
    · ext i hi; simp; cases x[i] <;> cases m[i] <;> simp
  have h2 : (x &&& m).toNat = x.toNat % 2 ^ k := by rw [BitVec.toNat_and, e2, Nat.and_two_pow_sub_one_eq_mod]
  have h3 : (x &&& m).toNat + (x &&& ~~~m).toNat = x.toNat := by
    have h4 := congrArg BitVec.toNat h1
    rw [BitVec.toNat_add] at h4
    have h5 := (x &&& m).isLt
    have h6 := (x &&& ~~~m).isLt
    have h7 : (x &&& m).toNat ≤ x.toNat := by rw [h2]; exact Nat.mod_le _ _
    omega
  have h8 : ((2 ^ k : Nat) : Int) = (2 ^ k : Nat) := rfl
  rw [show x.toNat % ((2 ^ k : Nat) : Int) = ((x.toNat % 2 ^ k : Nat) : Int) by push_cast; rfl]
  omega
theorem andNot_mask (n : Int) (h0 : 0 ≤ n) (h1 : n ≤ 65535) (k : Nat) (hk : k ≤ 16) : bitsI .andNot .i64 n ((2 ^ k - 1 : Nat) : Int) = n - n % ((2 ^ k : Nat) : Int) := by
  show IntKind.wrap .i64 ((BitVec.ofInt 64 n &&& ~~~ BitVec.ofInt 64 ((2 ^ k - 1 : Nat) : Int)).toNat : Int) = _
  rw [split_mask _ k (by omega)]
  have e : ((BitVec.ofInt 64 n).toNat : Int) = n := by
    rw [BitVec.toNat_ofInt, Int.emod_eq_of_lt h0 (by omega)]; omega
  rw [e]
  have := Int.emod_nonneg n (b := ((2 ^ k : Nat) : Int)) (by have := Nat.two_pow_pos k; omega)
  have := Int.emod_nonneg n (b := ((2 ^ k : Nat) : Int)) (by have := Nat.two_pow_pos k; omega)
  have h9 : n % ((2 ^ k : Nat) : Int) ≤ n := by
    have := Int.mul_ediv_add_emod n ((2 ^ k : Nat) : Int)
    have h10 : 0 ≤ ((2 ^ k : Nat) : Int) * (n / ((2 ^ k : Nat) : Int)) := Int.mul_nonneg (by omega) (Int.ediv_nonneg h0 (by omega))
    omega
  exact w64 (by omega) (by omega)
theorem and_hi (n : Int) (h0 : 0 ≤ n) (h1 : n ≤ 65535) (k : Nat) (hk : k ≤ 16) : bitsI .and .i64 n ((65536 - 2 ^ k : Nat) : Int) = n - n % ((2 ^ k : Nat) : Int) := by
  rw [← andNot_mask n h0 h1 k hk]
  show IntKind.wrap .i64 ((BitVec.ofInt 64 n &&& BitVec.ofInt 64 ((65536 - 2 ^ k : Nat) : Int)).toNat : Int) = IntKind.wrap .i64 ((BitVec.ofInt 64 n &&& ~~~ BitVec.ofInt 64 ((2 ^ k - 1 : Nat) : Int)).toNat : Int)
  congr 2
  obtain ⟨x, rfl⟩ : ∃ x : BitVec 16, n = x.toNat := ⟨BitVec.ofNat 16 n.toNat, by simp; omega⟩
  clear h0 h1
  have : k = 0 ∨ k = 1 ∨ k = 2 ∨ k = 3 ∨ k = 4 ∨ k = 5 ∨ k = 6 ∨ k = 7 ∨ k = 8 ∨ k = 9 ∨ k = 10 ∨ k = 11 ∨ k = 12 ∨ k = 13 ∨ k = 14 ∨ k = 15 ∨ k = 16 := by omega
  have e : BitVec.ofInt 64 (x.toNat : Int) = x.zeroExtend 64 := by
    apply BitVec.eq_of_toNat_eq
    rw [BitVec.toNat_ofInt]
    have := x.isLt
    simp
    omega
  rw [e]
  congr 1
  have key : ∀ y z : BitVec 64, (∀ i, i < 16 → y.getLsbD i = z.getLsbD i) → x.zeroExtend 64 &&& y = x.zeroExtend 64 &&& z := fun y z h => by
    apply BitVec.eq_of_getLsbD_eq
    intro i hi
    simp only [BitVec.getLsbD_and]
    by_cases hi : i < 16
    · rw [h i hi]
    · have : (x.zeroExtend 64).getLsbD i = false := by
        simp
        intro _
        exact BitVec.getLsbD_of_ge _ _ (by omega)
      rw [this]; simp
  apply key
  rcases this with rfl | rfl | rfl | rfl | rfl | rfl | rfl | rfl | rfl | rfl | rfl | rfl | rfl | rfl | rfl | rfl | rfl <;> decide
def hasX (o : GOpd) : Bool := decide (o.mode = 6) || (decide (o.mode = 7) || ((decide (o.mode = 2) || decide (o.mode = 3)) && decide (o.reg = 7)))
def opdE (o : GOpd) : Bool := inI o.mode 0 7 && (inI o.reg 0 7 && (inI o.x 0 65535 && (decide (o.x = 0) || hasX o)))
def zOpd : GOpd := ⟨0, 0, 0⟩
def zB (o : GOpd) : Bool := decide (o.mode = 0) && (decide (o.reg = 0) && decide (o.x = 0))
theorem impl_HasX (o : GOpd) : Con 35 [.agg (GOpd.ro o)] (.bool (hasX o)) [none] := by
  refine con Try.func35 ?_
  repeat' (first | refine And.intro (fun (h : _ = true) => ?_) (fun (h : _ = false) => ?_) | refine And.intro (fun (h : _ = false) => ?_) (fun (h : _ = true) => ?_) | refine And.intro (show regOk _ _ = true from by kernel_rfl) ?_ | refine And.intro (Sim.of_eq (congrArg AV.bool ?_)) trivial | fail)
  all_goals simp_all [hasX]
theorem spec_HasX (o : GOpd) : Con 91 [.agg (GOpd.ro o)] (.bool (hasX o)) [none] := by
  refine con Try.func91 ?_
  repeat' (first | refine And.intro (fun (h : _ = true) => ?_) (fun (h : _ = false) => ?_) | refine And.intro (fun (h : _ = false) => ?_) (fun (h : _ = true) => ?_) | refine And.intro (show regOk _ _ = true from by kernel_rfl) ?_ | refine And.intro (Sim.of_eq (congrArg AV.bool ?_)) trivial | fail)
  all_goals simp_all [hasX]
theorem impl_isReg' (x : Int) : Con 61 [.int .i64 x] (.bool (inI x 0 7)) [none] := by
  refine con Try.func61 ?_
  exact ⟨[.ro, .ro, .ro], .bool (inI x 0 7), [none, none, none], impl_within x 0 7, trivial, .refl _, trivial⟩
theorem impl_hasSrc (x : Int) : Con 34 [.int .i64 x] (.bool (inI x 1 6)) [none] := by
  refine con Try.func34 ?_
  exact ⟨[.ro, .ro, .ro], .bool (inI x 1 6), [none, none, none], impl_within x 1 6, trivial, .refl _, trivial⟩
theorem impl_hasDst (x : Int) : Con 36 [.int .i64 x] (.bool (inI x 1 15)) [none] := by
  refine con Try.func36 ?_
  exact ⟨[.ro, .ro, .ro], .bool (inI x 1 15), [none, none, none], impl_within x 1 15, trivial, .refl _, trivial⟩
theorem impl_isBranch (x : Int) : Con 62 [.int .i64 x] (.bool (inI x 17 21)) [none] := by
  refine con Try.func62 ?_
  exact ⟨[.ro, .ro, .ro], .bool (inI x 17 21), [none, none, none], impl_within x 17 21, trivial, .refl _, trivial⟩
theorem impl_OpdOk (o : GOpd) : Con 60 [.agg (GOpd.ro o)] (.bool (opdE o)) [none] := by
  refine con Try.func60 ?_
  repeat' (first | refine And.intro (fun (h : _ = true) => ?_) (fun (h : _ = false) => ?_) | refine And.intro (fun (h : _ = false) => ?_) (fun (h : _ = true) => ?_) | refine And.intro (show regOk _ _ = true from by kernel_rfl) ?_ | refine And.intro (Sim.of_eq (congrArg AV.bool ?_)) trivial | refine ⟨[.ro, .ro, .ro], .bool _, [none, none, none], impl_within o.mode 0 7, (by first | exact trivial | exact ⟨trivial, trivial⟩ | exact ⟨GByte.nro _, trivial⟩ | exact ⟨GExpr.noRo_ow _, trivial⟩ | exact ⟨GExpr.nro _, trivial⟩ | exact ⟨GInt.nro _, trivial⟩ | exact ⟨GString.nro _, trivial⟩), ?_⟩ | refine ⟨[.ro], .bool _, [none], impl_isReg' o.reg, (by first | exact trivial | exact ⟨trivial, trivial⟩ | exact ⟨GByte.nro _, trivial⟩ | exact ⟨GExpr.noRo_ow _, trivial⟩ | exact ⟨GExpr.nro _, trivial⟩ | exact ⟨GInt.nro _, trivial⟩ | exact ⟨GString.nro _, trivial⟩), ?_⟩ | refine ⟨[.ro], .bool _, [none], impl_isWord o.x, (by first | exact trivial | exact ⟨trivial, trivial⟩ | exact ⟨GByte.nro _, trivial⟩ | exact ⟨GExpr.noRo_ow _, trivial⟩ | exact ⟨GExpr.nro _, trivial⟩ | exact ⟨GInt.nro _, trivial⟩ | exact ⟨GString.nro _, trivial⟩), ?_⟩ | refine ⟨[.ro], .bool _, [none], impl_HasX o, (by first | exact trivial | exact ⟨trivial, trivial⟩ | exact ⟨GByte.nro _, trivial⟩ | exact ⟨GExpr.noRo_ow _, trivial⟩ | exact ⟨GExpr.nro _, trivial⟩ | exact ⟨GInt.nro _, trivial⟩ | exact ⟨GString.nro _, trivial⟩), ?_⟩ | fail)
  all_goals simp_all [opdE]
theorem spec_OpdOk (o : GOpd) : Con 106 [.agg (GOpd.ro o)] (.bool (opdE o)) [none] := by
  refine con Try.func106 ?_
  repeat' (first | refine And.intro (fun (h : _ = true) => ?_) (fun (h : _ = false) => ?_) | refine And.intro (fun (h : _ = false) => ?_) (fun (h : _ = true) => ?_) | refine And.intro (show regOk _ _ = true from by kernel_rfl) ?_ | refine And.intro (Sim.of_eq (congrArg AV.bool ?_)) trivial | refine ⟨[.ro, .ro, .ro], .bool _, [none, none, none], spec_l1In o.mode 0 7, (by first | exact trivial | exact ⟨trivial, trivial⟩ | exact ⟨GByte.nro _, trivial⟩ | exact ⟨GExpr.noRo_ow _, trivial⟩ | exact ⟨GExpr.nro _, trivial⟩ | exact ⟨GInt.nro _, trivial⟩ | exact ⟨GString.nro _, trivial⟩), ?_⟩ | refine ⟨[.ro, .ro, .ro], .bool _, [none, none, none], spec_l1In o.reg 0 7, (by first | exact trivial | exact ⟨trivial, trivial⟩ | exact ⟨GByte.nro _, trivial⟩ | exact ⟨GExpr.noRo_ow _, trivial⟩ | exact ⟨GExpr.nro _, trivial⟩ | exact ⟨GInt.nro _, trivial⟩ | exact ⟨GString.nro _, trivial⟩), ?_⟩ | refine ⟨[.ro, .ro, .ro], .bool _, [none, none, none], spec_l1In o.x 0 65535, (by first | exact trivial | exact ⟨trivial, trivial⟩ | exact ⟨GByte.nro _, trivial⟩ | exact ⟨GExpr.noRo_ow _, trivial⟩ | exact ⟨GExpr.nro _, trivial⟩ | exact ⟨GInt.nro _, trivial⟩ | exact ⟨GString.nro _, trivial⟩), ?_⟩ | refine ⟨[.ro], .bool _, [none], spec_HasX o, (by first | exact trivial | exact ⟨trivial, trivial⟩ | exact ⟨GByte.nro _, trivial⟩ | exact ⟨GExpr.noRo_ow _, trivial⟩ | exact ⟨GExpr.nro _, trivial⟩ | exact ⟨GInt.nro _, trivial⟩ | exact ⟨GString.nro _, trivial⟩), ?_⟩ | fail)
  all_goals simp_all [opdE]
theorem spec_l3Zero (o : GOpd) : Con 107 [.agg (GOpd.ro o)] (.bool (zB o)) [none] := by
  refine con Try.func107 ?_
  exact ⟨.of_eq (congrArg AV.bool (by simp [zB])), trivial⟩
def insE (x : GIns) : Bool := if inI x.op 1 6 = true then opdE x.src && (opdE x.dst && decide (x.n = 0)) else if inI x.op 7 14 = true then zB x.src && (opdE x.dst && decide (x.n = 0))
  else if x.op = 15 then zB x.src && (opdE x.dst && inI x.n 0 7) else if zB x.src = false then false else if zB x.dst = false then false else if x.op = 16 then inI x.n 0 7 else if inI x.op 17 21 = true then inI x.n (-128) 127 else if x.op = 22 then decide (x.n = 0) else if x.op = 23 then inI x.n 0 255 else false
theorem spec_InsOk (x : GIns) : Con 92 [.agg (GIns.ro x)] (.bool (insE x)) [none] := by
  refine con Try.func92 ?_
  repeat' (first | refine And.intro (fun (h : _ = true) => ?_) (fun (h : _ = false) => ?_) | refine And.intro (fun (h : _ = false) => ?_) (fun (h : _ = true) => ?_) | refine And.intro (show regOk _ _ = true from by kernel_rfl) ?_ | refine And.intro (Sim.of_eq (congrArg AV.bool ?_)) trivial | refine ⟨[.ro, .ro, .ro], .bool _, [none, none, none], spec_l1In x.op 1 6, (by first | exact trivial | exact ⟨trivial, trivial⟩ | exact ⟨GByte.nro _, trivial⟩ | exact ⟨GExpr.noRo_ow _, trivial⟩ | exact ⟨GExpr.nro _, trivial⟩ | exact ⟨GInt.nro _, trivial⟩ | exact ⟨GString.nro _, trivial⟩), ?_⟩ | refine ⟨[.ro, .ro, .ro], .bool _, [none, none, none], spec_l1In x.op 7 14, (by first | exact trivial | exact ⟨trivial, trivial⟩ | exact ⟨GByte.nro _, trivial⟩ | exact ⟨GExpr.noRo_ow _, trivial⟩ | exact ⟨GExpr.nro _, trivial⟩ | exact ⟨GInt.nro _, trivial⟩ | exact ⟨GString.nro _, trivial⟩), ?_⟩ | refine ⟨[.ro, .ro, .ro], .bool _, [none, none, none], spec_l1In x.op 17 21, (by first | exact trivial | exact ⟨trivial, trivial⟩ | exact ⟨GByte.nro _, trivial⟩ | exact ⟨GExpr.noRo_ow _, trivial⟩ | exact ⟨GExpr.nro _, trivial⟩ | exact ⟨GInt.nro _, trivial⟩ | exact ⟨GString.nro _, trivial⟩), ?_⟩ | refine ⟨[.ro, .ro, .ro], .bool _, [none, none, none], spec_l1In x.n 0 7, (by first | exact trivial | exact ⟨trivial, trivial⟩ | exact ⟨GByte.nro _, trivial⟩ | exact ⟨GExpr.noRo_ow _, trivial⟩ | exact ⟨GExpr.nro _, trivial⟩ | exact ⟨GInt.nro _, trivial⟩ | exact ⟨GString.nro _, trivial⟩), ?_⟩ | refine ⟨[.ro, .ro, .ro], .bool _, [none, none, none], spec_l1In x.n (-128) 127, (by first | exact trivial | exact ⟨trivial, trivial⟩ | exact ⟨GByte.nro _, trivial⟩ | exact ⟨GExpr.noRo_ow _, trivial⟩ | exact ⟨GExpr.nro _, trivial⟩ | exact ⟨GInt.nro _, trivial⟩ | exact ⟨GString.nro _, trivial⟩), ?_⟩ | refine ⟨[.ro, .ro, .ro], .bool _, [none, none, none], spec_l1In x.n 0 255, (by first | exact trivial | exact ⟨trivial, trivial⟩ | exact ⟨GByte.nro _, trivial⟩ | exact ⟨GExpr.noRo_ow _, trivial⟩ | exact ⟨GExpr.nro _, trivial⟩ | exact ⟨GInt.nro _, trivial⟩ | exact ⟨GString.nro _, trivial⟩), ?_⟩ | refine ⟨[.ro], .bool _, [none], spec_OpdOk x.src, (by first | exact trivial | exact ⟨trivial, trivial⟩ | exact ⟨GByte.nro _, trivial⟩ | exact ⟨GExpr.noRo_ow _, trivial⟩ | exact ⟨GExpr.nro _, trivial⟩ | exact ⟨GInt.nro _, trivial⟩ | exact ⟨GString.nro _, trivial⟩), ?_⟩ | refine ⟨[.ro], .bool _, [none], spec_OpdOk x.dst, (by first | exact trivial | exact ⟨trivial, trivial⟩ | exact ⟨GByte.nro _, trivial⟩ | exact ⟨GExpr.noRo_ow _, trivial⟩ | exact ⟨GExpr.nro _, trivial⟩ | exact ⟨GInt.nro _, trivial⟩ | exact ⟨GString.nro _, trivial⟩), ?_⟩ | refine ⟨[.ro], .bool _, [none], spec_l3Zero x.src, (by first | exact trivial | exact ⟨trivial, trivial⟩ | exact ⟨GByte.nro _, trivial⟩ | exact ⟨GExpr.noRo_ow _, trivial⟩ | exact ⟨GExpr.nro _, trivial⟩ | exact ⟨GInt.nro _, trivial⟩ | exact ⟨GString.nro _, trivial⟩), ?_⟩ | refine ⟨[.ro], .bool _, [none], spec_l3Zero x.dst, (by first | exact trivial | exact ⟨trivial, trivial⟩ | exact ⟨GByte.nro _, trivial⟩ | exact ⟨GExpr.noRo_ow _, trivial⟩ | exact ⟨GExpr.nro _, trivial⟩ | exact ⟨GInt.nro _, trivial⟩ | exact ⟨GString.nro _, trivial⟩), ?_⟩ | fail)
  all_goals simp_all [insE]
def baseL : List Int := [0, 4096, 8192, 16384, 20480, 24576, 57344, 2560, 2688, 2752, 2816, 3008, 3200, 3264, 64, 2048, 128, 256, 512, 768, 1024, 1280, 0, 34816]
def baseV (op : Int) : Int := baseL.getD op.toNat 0
theorem base_row (op : Int) (h0 : 0 ≤ op) (h1 : op < 24) : (GInt.ros baseL)[op.toNat]? = some [.int .i64 (baseV op)] := by
  have hl : baseL.length = 24 := rfl
  rw [map_get baseL op.toNat (by omega), baseV, List.getD_eq_getElem?_getD, List.getElem?_eq_getElem (by omega)]
  rfl
theorem impl_baseOf (op : Int) (h0 : 0 ≤ op) (h1 : op < 24) : Con 63 [.int .i64 op] (.int .i64 (baseV op)) [none] := by
  refine con Try.func63 ?_
  exact ⟨h0, h1, _, base_row op h0 h1, .refl _, trivial⟩
theorem spec_l4Base (op : Int) (h0 : 0 ≤ op) (h1 : op < 24) : Con 104 [.int .i64 op] (.int .i64 (baseV op)) [none] := by
  refine con Try.func104 ?_
  exact ⟨h0, h1, _, base_row op h0 h1, .refl _, trivial⟩
def wordsV (x : GIns) : Int := 1 + (if (inI x.op 1 6 && hasX x.src) = true then 1 else 0) + (if (inI x.op 1 15 && hasX x.dst) = true then 1 else 0)
theorem impl_Words (x : GIns) : Con 66 [.agg (GIns.ro x)] (.int .i64 (wordsV x)) [none] := by
  refine con Try.func66 ?_
  repeat' (first | refine And.intro (fun (h : _ = true) => ?_) (fun (h : _ = false) => ?_) | refine And.intro (fun (h : _ = false) => ?_) (fun (h : _ = true) => ?_) | refine And.intro (show regOk _ _ = true from by kernel_rfl) ?_ | refine And.intro (Sim.of_eq (congrArg (AV.int .i64) ?_)) trivial | refine ⟨[.ro], .bool _, [none], impl_hasSrc x.op, (by first | exact trivial | exact ⟨trivial, trivial⟩ | exact ⟨GByte.nro _, trivial⟩ | exact ⟨GExpr.noRo_ow _, trivial⟩ | exact ⟨GExpr.nro _, trivial⟩ | exact ⟨GInt.nro _, trivial⟩ | exact ⟨GString.nro _, trivial⟩), ?_⟩ | refine ⟨[.ro], .bool _, [none], impl_hasDst x.op, (by first | exact trivial | exact ⟨trivial, trivial⟩ | exact ⟨GByte.nro _, trivial⟩ | exact ⟨GExpr.noRo_ow _, trivial⟩ | exact ⟨GExpr.nro _, trivial⟩ | exact ⟨GInt.nro _, trivial⟩ | exact ⟨GString.nro _, trivial⟩), ?_⟩ | refine ⟨[.ro], .bool _, [none], impl_HasX x.src, (by first | exact trivial | exact ⟨trivial, trivial⟩ | exact ⟨GByte.nro _, trivial⟩ | exact ⟨GExpr.noRo_ow _, trivial⟩ | exact ⟨GExpr.nro _, trivial⟩ | exact ⟨GInt.nro _, trivial⟩ | exact ⟨GString.nro _, trivial⟩), ?_⟩ | refine ⟨[.ro], .bool _, [none], impl_HasX x.dst, (by first | exact trivial | exact ⟨trivial, trivial⟩ | exact ⟨GByte.nro _, trivial⟩ | exact ⟨GExpr.noRo_ow _, trivial⟩ | exact ⟨GExpr.nro _, trivial⟩ | exact ⟨GInt.nro _, trivial⟩ | exact ⟨GString.nro _, trivial⟩), ?_⟩ | fail)
  all_goals simp_all [wordsV, w64]
end Go.Proofs.VI
