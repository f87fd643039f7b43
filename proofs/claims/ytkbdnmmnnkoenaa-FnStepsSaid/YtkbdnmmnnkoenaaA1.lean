/- Contracts of functions, and what they rest on: l01. -/
import Derived.Test.YtkbdnmmnnkoenaaD3
set_option linter.unusedVariables false
set_option linter.unusedSimpArgs false
set_option maxRecDepth 10000
set_option maxHeartbeats 4000000
namespace Go.Proofs.VI
open Go
def wr16 (n : Int) : Int := n % 65536
theorem and_mask (n : Int) (k : Nat) (hk : k ≤ 62) : bitsI .and .i64 n ((2 ^ k - 1 : Nat) : Int) = n % ((2 ^ k : Nat) : Int) := by
  have hp : (2 : Nat) ^ k ≤ 2 ^ 62 := Nat.pow_le_pow_right (by decide) hk
  have h1 : (BitVec.ofInt 64 n &&& BitVec.ofInt 64 ((2 ^ k - 1 : Nat) : Int)).toNat = (n % ((2 ^ k : Nat) : Int)).toNat := by
    rw [BitVec.toNat_and, BitVec.toNat_ofInt, BitVec.toNat_ofInt]
    have e2 : (((2 ^ k - 1 : Nat) : Int) % ((2 ^ 64 : Nat) : Int)).toNat = 2 ^ k - 1 := by
      rw [Int.emod_eq_of_lt (by omega) (by have : (2 : Nat) ^ 62 < 2 ^ 64 := by decide
                                           omega)]
      omega
    rw [e2, Nat.and_two_pow_sub_one_eq_mod]
    have hdvd : (2 : Nat) ^ k ∣ 2 ^ 64 := Nat.pow_dvd_pow 2 (by omega)
    have e3 : ((n % ((2 ^ 64 : Nat) : Int)).toNat % 2 ^ k : Nat) = ((n % ((2 ^ 64 : Nat) : Int)) % ((2 ^ k : Nat) : Int)).toNat := by
      rw [Int.toNat_emod (Int.emod_nonneg _ (by decide)) (by omega)]
      rfl
    rw [e3, Int.emod_emod_of_dvd _ (by exact_mod_cast hdvd)]
  have h0 : 0 ≤ n % ((2 ^ k : Nat) : Int) := Int.emod_nonneg _ (by have := Nat.two_pow_pos k; omega)
  have h2 : n % ((2 ^ k : Nat) : Int) < ((2 ^ k : Nat) : Int) := Int.emod_lt_of_pos _ (by have := Nat.two_pow_pos k; omega)
  have hp3 : ((2 ^ k : Nat) : Int) ≤ 4611686018427387904 := by
    have : (2 : Nat) ^ 62 = 4611686018427387904 := by decide
    omega
  show IntKind.wrap .i64 ((BitVec.ofInt 64 n &&& BitVec.ofInt 64 ((2 ^ k - 1 : Nat) : Int)).toNat : Int) = _
  rw [h1, w64 (by omega) (by omega)]
  omega
theorem and_65535 (n : Int) : bitsI .and .i64 n 65535 = wr16 n := and_mask n 16 (by decide)
theorem and_255 (n : Int) : bitsI .and .i64 n 255 = n % 256 := and_mask n 8 (by decide)
theorem shr_8 (n : Int) : shrI .i64 n 8 = n / 256 := by
  show n.fdiv 256 = n / 256
  exact Int.fdiv_eq_ediv_of_nonneg _ (by decide)
theorem u8_mod (n : Int) : IntKind.wrap .u8 n = n % 256 := rfl
def w8 (n : Int) : UInt8 := UInt8.ofNat (n % 256).toNat
theorem w8_toNat (n : Int) : ((w8 n).toNat : Int) = n % 256 := by
  have h0 : 0 ≤ n % 256 := Int.emod_nonneg _ (by decide)
  have h1 : n % 256 < 256 := Int.emod_lt_of_pos _ (by decide)
  rw [w8, UInt8.toNat_ofNat']
  omega
def bW (n : Int) : List UInt8 := [w8 n, w8 (n / 256)]
theorem bW_len (n : Int) : (bW n).length = 2 := rfl
def bl (s : ByteArray) : List UInt8 := s.data.toList
theorem bl_len (s : ByteArray) : (bl s).length = s.size := Array.length_toList
theorem strRows_eq (s : ByteArray) : strRows s = GByte.ows (bl s) := rfl
theorem bW_row (n : Int) : [[AV.int .u8 (n % 256)], [AV.int .u8 (n / 256 % 256)]] = GByte.ows (bW n) := by
  simp only [bW, List.map_cons, List.map_nil, GByte.ro, w8_toNat]
theorem wr_bytes (n : Int) : wr16 n % 256 = n % 256 ∧ wr16 n / 256 % 256 = n / 256 % 256 := by rw [wr16]; omega
theorem byte_app (a b : List UInt8) : GByte.ows a ++ GByte.ows b = GByte.ows (a ++ b) := List.map_append.symm
theorem byte_len (a : List UInt8) : (GByte.ows a).length = a.length := by simp
theorem byte_plain (a : List UInt8) : plainRows (GByte.ows a) := by
  induction a with
  | nil => trivial
  | cons x l ih => exact ⟨⟨trivial, trivial⟩, ih⟩
theorem byte_noOw (a : List UInt8) : noOw (GByte.ows a) := by
  intro row hr v hv
  obtain ⟨x, _, rfl⟩ := List.mem_map.1 hr
  have : v = .int .u8 (x.toNat : Int) := by simpa [GByte.ow, GByte.ro] using hv
  subst this; trivial
def bT (s : ByteArray) : List UInt8 := if 1000 < s.size then [] else bW s.size ++ bl s
theorem impl_Wrap (n : Int) : Con 16 [.int .i64 n] (.int .i64 (wr16 n)) [none] := by
  refine con Try.func16 ?_
  exact ⟨.of_eq (congrArg (AV.int .i64) (and_65535 n)), trivial⟩
theorem spec_Wrap (n : Int) : Con 77 [.int .i64 n] (.int .i64 (wr16 n)) [none] := by
  refine con Try.func77 ?_
  exact ⟨.of_eq (congrArg (AV.int .i64) (and_65535 n)), trivial⟩
abbrev GByteS.ro (x : List UInt8) : List AV := [.ro 1 (GByte.ros x)]
theorem cntB (l : List UInt8) : cntS GByte.w l = l.length := by
  induction l with
  | nil => rfl
  | cons x l ih =>
    have : GByte.w x = 1 := rfl
    simp only [cntS, ih, List.length_cons]; omega
end Go.Proofs.VI
