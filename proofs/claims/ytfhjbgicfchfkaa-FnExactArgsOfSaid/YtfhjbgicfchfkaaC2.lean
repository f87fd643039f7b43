/- Tokens: the harness. -/
import Derived.Test.YtfhjbgicfchfkaaC1
set_option linter.unusedVariables false
set_option linter.unusedSimpArgs false
set_option maxRecDepth 10000
namespace Go.Proofs.VI
open Go

theorem eqToken_ok (t : Tok) : Con 46 [.agg t.ro, .agg t.ro] (.bool true) [none, none] := by
  refine con Try.func46 ?_
  refine ⟨fun h => absurd rfl (of_decide_eq_true h), fun h => ⟨fun h => absurd rfl (of_decide_eq_true h), fun h => ⟨fun h => absurd rfl (of_decide_eq_true h), fun h => ⟨.refl _, trivial⟩⟩⟩⟩
theorem eqTokenS_ok (l : List Tok) (hl : l.length ≤ 9223372036854775806) :
    Con 14 [.ro 3 (l.map Tok.ro), .ro 3 (l.map Tok.ro)] (.bool true) [none, none] := by
  refine con Try.func14 ?_
  have hlen : (l.map Tok.ro).length = l.length := by simp
  refine ⟨fun h => absurd rfl (of_decide_eq_true h), fun h => ?_⟩
  refine ⟨{ i : Nat // i ≤ l.length }, fun i => ⟨[(0, .ro 3 (l.map Tok.ro)), (1, .ro 3 (l.map Tok.ro)), (5, .int .i64 i.1)], []⟩, fun i => l.length - i.1, ⟨0, by omega⟩, ?_, ?_⟩
  · exact ⟨rfl, rfl, rfl, trivial⟩
  · rintro ⟨i, hi⟩
    dsimp only
    refine ⟨fun h => ?_, fun h => ?_⟩ <;> simp only [hlen, decide_eq_true_eq, decide_eq_false_iff_not] at h
    · have hi : i < l.length := by omega
      refine ⟨Int.natCast_nonneg _, _, map_get _ _ hi, Int.natCast_nonneg _, _, map_get _ _ hi, [.ro, .ro], .bool true, [none, none], eqToken_ok l[i], trivial, rfl, fun h => Bool.noConfusion h, fun h => ⟨⟨i + 1, by omega⟩, by dsimp only; omega, rfl, rfl, congrArg (AV.int .i64) (w64 (by omega) (by omega)), trivial⟩⟩
    · exact ⟨.refl _, trivial⟩
theorem eqTokenSS_ok (l : List (List Tok)) (hl : l.length ≤ 9223372036854775806) (hs : ∀ x ∈ l, x.length ≤ 9223372036854775806) :
    Con 13 [.ro 1 (l.map fun x => [.ro 3 (x.map Tok.ro)]), .ro 1 (l.map fun x => [.ro 3 (x.map Tok.ro)])] (.bool true) [none, none] := by
  refine con Try.func13 ?_
  have hlen : (l.map fun x => [AV.ro 3 (x.map Tok.ro)]).length = l.length := by simp
  refine ⟨fun h => absurd rfl (of_decide_eq_true h), fun h => ?_⟩
  refine ⟨{ i : Nat // i ≤ l.length }, fun i => ⟨[(0, .ro 1 (l.map fun x => [.ro 3 (x.map Tok.ro)])), (1, .ro 1 (l.map fun x => [.ro 3 (x.map Tok.ro)])), (5, .int .i64 i.1)], []⟩, fun i => l.length - i.1, ⟨0, by omega⟩, ?_, ?_⟩
  · exact ⟨rfl, rfl, rfl, trivial⟩
  · rintro ⟨i, hi⟩
    dsimp only
    refine ⟨fun h => ?_, fun h => ?_⟩ <;> simp only [hlen, decide_eq_true_eq, decide_eq_false_iff_not] at h
    · have hi : i < l.length := by omega
      refine ⟨Int.natCast_nonneg _, _, map_get _ _ hi, Int.natCast_nonneg _, _, map_get _ _ hi, [.ro, .ro], .bool true, [none, none], eqTokenS_ok l[i] (hs _ (List.getElem_mem _)), trivial, rfl, fun h => Bool.noConfusion h, fun h => ⟨⟨i + 1, by omega⟩, by dsimp only; omega, rfl, rfl, congrArg (AV.int .i64) (w64 (by omega) (by omega)), trivial⟩⟩
    · exact ⟨.refl _, trivial⟩
/-! marks -/
def dig (n : Nat) : List UInt8 := if h : n = 0 then [] else dig (n / 10) ++ [(48 + n % 10).toUInt8]
termination_by n
decreasing_by omega
def bytes (l : List UInt8) : ByteArray := ⟨l.toArray⟩
theorem bytes_append (a b : List UInt8) : bytes a ++ bytes b = bytes (a ++ b) := by
  apply ByteArray.ext; simp [bytes]
theorem bytes_size (a : List UInt8) : (bytes a).size = a.length := by simp [bytes, ByteArray.size]
theorem dig_len (n : Nat) : (dig n).length ≤ n := by
  induction n using Nat.strongRecOn with
  | ind n ih =>
    unfold dig
    split
    · simp
    · have := ih (n / 10) (by omega)
      simp; omega
theorem dig_pos (n : Nat) (h : n ≠ 0) : dig n = dig (n / 10) ++ [(48 + n % 10).toUInt8] := by rw [dig.eq_1 n, dif_neg h]
def mtext (k : Int) : ByteArray := if k ≤ 0 then bytes [109, 48] else bytes ([109] ++ dig k.toNat)
theorem markText_ok (k : Int) (h0 : 0 ≤ k) (h1 : k ≤ 1152921504606846976) : Con 47 [.int .i64 k] (.str (mtext k)) [none] := by
  refine con Try.func47 ?_
  refine ⟨fun h => ⟨.of_eq (congrArg AV.str ?_), trivial⟩, fun h => ?_⟩ <;> simp only [decide_eq_true_eq, decide_eq_false_iff_not] at h
  · rw [mtext, if_pos h]; rfl
  refine ⟨{ p : Nat × List UInt8 // p.1 ≤ k.toNat ∧ dig p.1 ++ p.2 = dig k.toNat }, fun p => ⟨[(0, .int .i64 p.1.1), (3, .str (bytes p.1.2))], []⟩, fun p => p.1.1, ⟨(k.toNat, []), by omega, by simp⟩, ?_, ?_⟩
  · exact ⟨congrArg (AV.int .i64) (by dsimp only; omega), rfl, trivial⟩
  · rintro ⟨⟨n, l⟩, hn, hl⟩
    dsimp only at hn hl ⊢
    have hsz : l.length ≤ k.toNat := by
      have := dig_len k.toNat
      rw [← hl] at this
      simp at this; omega
    refine ⟨fun h => ?_, fun h => ?_⟩ <;> simp only [decide_eq_true_eq, decide_eq_false_iff_not] at h
    · have hd : IntKind.u8.wrap (IntKind.i64.wrap (48 + (n : Int).tmod 10)) = ((48 + n % 10 : Nat) : Int) := by
        rw [Int.tmod_eq_emod_of_nonneg (by omega), w64 (by omega) (by omega), IntWalk.u8_in _ (by omega)]
        omega
      have hr : rowsStr [[AV.int .u8 (IntKind.u8.wrap (IntKind.i64.wrap (48 + (n : Int).tmod 10)))]] = bytes [(48 + n % 10).toUInt8] := by
        rw [hd]; rfl
      refine ⟨by decide, rfl, ?_, ?_, by decide, ⟨(n / 10, (48 + n % 10).toUInt8 :: l), by omega, ?_⟩, ?_, ?_⟩
      · intro r hr
        rw [List.mem_singleton] at hr
        exact ⟨_, hr, by rw [hd]; omega, by rw [hd]; omega⟩
      · rw [hr, bytes_size, bytes_size]; simp; omega
      · rw [← hl, dig_pos n (by omega)]; simp
      · dsimp only; omega
      · refine ⟨congrArg (AV.int .i64) ?_, congrArg AV.str ?_, trivial⟩
        · rw [Int.tdiv_eq_ediv_of_nonneg (by omega), w64 (by omega) (by omega)]
          dsimp only; omega
        · rw [hr, bytes_append]; rfl
    · refine ⟨?_, .of_eq (congrArg AV.str ?_), trivial⟩
      · show (bytes [109]).size + _ ≤ _
        rw [bytes_size, bytes_size]; simp; omega
      · show bytes [109] ++ _ = _
        rw [bytes_append, mtext, if_neg (by omega), ← hl, show n = 0 by omega, dig]; rfl
end Go.Proofs.VI
