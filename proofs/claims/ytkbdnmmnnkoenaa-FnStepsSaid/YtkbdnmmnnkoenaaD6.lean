/- Contracts of functions, and what they rest on: decode. -/
import Derived.Test.YtkbdnmmnnkoenaaD1
import Derived.Test.YtkbdnmmnnkoenaaT
set_option linter.unusedVariables false
set_option linter.unusedSimpArgs false
set_option maxRecDepth 10000
set_option maxHeartbeats 4000000
namespace Go.Proofs.VI
open Go
theorem args_cons {tt : TypeId → Option TI} {t : TypeId} {ts : List TypeId} {avs : List AV} {i : TI} (hi : tt t = some i) (h : HasArgs tt (t :: ts) avs) : ∃ vs avs', avs = argAV i vs :: avs' ∧ HasTy tt t vs ∧ HasArgs tt ts avs' := by
  obtain ⟨i', vs, a, rfl, h1, h2, h3⟩ := h
  rw [hi] at h1; injection h1 with h1; subst h1
  exact ⟨vs, a, rfl, h2, h3⟩
theorem kind_eq {tt : TypeId → Option TI} {t : TypeId} {i j : TI} (h1 : tt t = some i) (h2 : tt t = some j) : i = j := Option.some.inj (h1.symm.trans h2)
theorem u8_row {n : Int} (h : 0 ≤ n ∧ n ≤ 255) : [AV.int .u8 n] = GByte.ro (UInt8.ofNat n.toNat) := by
  rw [GByte.ro, UInt8.toNat_ofNat']; congr 2; omega
theorem hty_IntS {l : List AV} (h : HasTy tt 25 l) : ∃ x : List GInt, l = [.ro 1 (GInt.ros x)] ∧ x.length ≤ 9223372036854775807 ∧ ∀ y ∈ x, GInt.ok y := by
  obtain ⟨rows, rfl, h1, h2⟩ := hty_slice rfl rfl rfl h
  obtain ⟨x, rfl, hx⟩ := rows_of (f := GInt.ro) (q := GInt.ok) rows (fun row hr => (hty_int rfl rfl (h2 row hr)).elim fun n hn => ⟨n, hn.1, wf64 hn.2⟩)
  exact ⟨x, rfl, by rw [List.length_map] at h1; exact h1, hx⟩
theorem hty_ByteS {l : List AV} (h : HasTy tt 22 l) : ∃ x : List GByte, l = [.ro 1 (GByte.ros x)] ∧ x.length ≤ 9223372036854775807 ∧ ∀ y ∈ x, GByte.ok y := by
  obtain ⟨rows, rfl, h1, h2⟩ := hty_slice rfl rfl rfl h
  obtain ⟨x, rfl, hx⟩ := rows_of (f := GByte.ro) (q := GByte.ok) rows (fun row hr => (hty_int rfl rfl (h2 row hr)).elim fun n hn => ⟨UInt8.ofNat n.toNat, by rw [hn.1]; exact u8_row (wfu8 hn.2), trivial⟩)
  exact ⟨x, rfl, by rw [List.length_map] at h1; exact h1, hx⟩
theorem hty_Mach {l : List AV} (h : HasTy tt 39 l) : ∃ a : GMach, l = GMach.ro a ∧ GMach.ok a := by
  obtain ⟨hl, hf⟩ := hty_struct rfl rfl h
  obtain ⟨f0, h0, w0⟩ := hty_IntS (hf 0 0 25 _ rfl rfl)
  obtain ⟨f1, h1, w1⟩ := hty_IntS (hf 1 1 25 _ rfl rfl)
  obtain ⟨f2, h2⟩ := hty_bool rfl rfl (hf 2 2 4 _ rfl rfl)
  obtain ⟨f3, h3⟩ := hty_bool rfl rfl (hf 3 3 4 _ rfl rfl)
  obtain ⟨f4, h4⟩ := hty_bool rfl rfl (hf 4 4 4 _ rfl rfl)
  obtain ⟨f5, h5⟩ := hty_bool rfl rfl (hf 5 5 4 _ rfl rfl)
  obtain ⟨f6, h6, w6⟩ := hty_IntS (hf 6 6 25 _ rfl rfl)
  obtain ⟨f7, h7, w7⟩ := hty_IntS (hf 7 7 25 _ rfl rfl)
  obtain ⟨f8, h8, w8⟩ := hty_int rfl rfl (hf 8 8 3 _ rfl rfl)
  exact ⟨⟨f0, f1, f2, f3, f4, f5, f6, f7, f8⟩, show l.drop 0 = _ from cut_cells 0 1 h0 _ (cut_cells 1 1 h1 _ (cut_cells 2 1 h2 _ (cut_cells 3 1 h3 _ (cut_cells 4 1 h4 _ (cut_cells 5 1 h5 _ (cut_cells 6 1 h6 _ (cut_cells 7 1 h7 _ (cut_cells 8 1 h8 _ (List.drop_eq_nil_of_le (Nat.le_of_eq hl)))))))))), w0, w1, trivial, trivial, trivial, trivial, w6, w7, wf64 w8⟩
end Go.Proofs.VI
