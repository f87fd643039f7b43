/- Contracts of functions, and what they rest on: l01. -/
import Derived.Test.YtjlonhiojgljcaaGreatD3
set_option linter.unusedVariables false
set_option linter.unusedSimpArgs false
set_option maxRecDepth 10000
set_option maxHeartbeats 4000000
namespace Go.Proofs.VI
open Go
def wr16 (n : Int) : Int := n % 65536
theorem and_mask (n : Int) (k : Nat) (hk : k ≤ 62) : bitsI .and .i64 n ((2 ^ k - 1 : Nat) : Int) = n % ((2 ^ k : Nat) : Int) := by
  have hp : (2 : Nat) ^ k ≤ 2 ^ 62 := Nat.pow_le_pow_right (by decide) hk
  have h1 : (BitVec.ofInt 64 n &&& BitVec.ofInt 64 ((2 ^ k - 1 : Nat) : Int)).toNat = (n % ((2 ^ k : Nat) : Int)).toNat := by
    rw [BitVec.toNat_and, BitVec.toNat_ofInt, BitVec.toNat_ofInt]
    have e2 : (((2 ^ k - 1 : Nat) : Int) % ((2 ^ 64 : Nat) : Int)).toNat = 2 ^ k - 1 := by
      rw [Int.emod_eq_of_lt (by omega) (by have : (2 : Nat) ^ 62 < 2 ^ 64 := by decide
                                           omega)]
      omega
    rw [e2, Nat.and_two_pow_sub_one_eq_mod]
    have hdvd : (2 : Nat) ^ k ∣ 2 ^ 64 := Nat.pow_dvd_pow 2 (by omega)
    have e3 : ((n % ((2 ^ 64 : Nat) : Int)).toNat % 2 ^ k : Nat) = ((n % ((2 ^ 64 : Nat) : Int)) % ((2 ^ k : Nat) : Int)).toNat := by
      rw [Int.toNat_emod (Int.emod_nonneg _ (by decide)) (by omega)]
      rfl
    rw [e3, Int.emod_emod_of_dvd _ (by exact_mod_cast hdvd)]
  have h0 : 0 ≤ n % ((2 ^ k : Nat) : Int) := Int.emod_nonneg _ (by have := Nat.two_pow_pos k; omega)
  have h2 : n % ((2 ^ k : Nat) : Int) < ((2 ^ k : Nat) : Int) := Int.emod_lt_of_pos _ (by have := Nat.two_pow_pos k; omega)
  have hp3 : ((2 ^ k : Nat) : Int) ≤ 4611686018427387904 := by
    have : (2 : Nat) ^ 62 = 4611686018427387904 := by decide
    omega
  show IntKind.wrap .i64 ((BitVec.ofInt 64 n &&& BitVec.ofInt 64 ((2 ^ k - 1 : Nat) : Int)).toNat : Int) = _
  rw [h1, w64 (by omega) (by omega)]
  omega
theorem and_65535 (n : Int) : bitsI .and .i64 n 65535 = wr16 n := and_mask n 16 (by decide)
theorem impl_Wrap (n : Int) : Con 185 [.int .i64 n] (.int .i64 (wr16 n)) [none] := by
  refine con Tryz.func185 ?_
  exact ⟨.of_eq (congrArg (AV.int .i64) (and_65535 n)), trivial⟩
theorem spec_Wrap (n : Int) : Con 188 [.int .i64 n] (.int .i64 (wr16 n)) [none] := by
  refine con Tryz.func188 ?_
  exact ⟨.of_eq (congrArg (AV.int .i64) (and_65535 n)), trivial⟩
abbrev GByteS.ro (x : List UInt8) : List AV := [.ro 1 (GByte.ros x)]
end Go.Proofs.VI
