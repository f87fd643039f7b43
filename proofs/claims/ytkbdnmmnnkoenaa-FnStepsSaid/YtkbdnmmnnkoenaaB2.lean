/- Contracts of functions, and what they rest on: l09. -/
import Derived.Test.YtkbdnmmnnkoenaaB1
set_option linter.unusedVariables false
set_option linter.unusedSimpArgs false
set_option maxRecDepth 10000
set_option maxHeartbeats 4000000
namespace Go.Proofs.VI
open Go
def inI (x lo hi : Int) : Bool := decide (lo ≤ x) && decide (x ≤ hi)
theorem bool_id (b : Bool) : (b == true) = b := by cases b <;> rfl
theorem spec_l1In (x lo hi : Int) : Con 47 [.int .i64 x, .int .i64 lo, .int .i64 hi] (.bool (inI x lo hi)) [none, none, none] := by
  refine con Try.func47 ?_
  refine ⟨fun h => ⟨.of_eq (congrArg AV.bool ?_), trivial⟩, fun h => ⟨.of_eq (congrArg AV.bool ?_), trivial⟩⟩ <;> rw [inI, h] <;> rfl
theorem impl_within (x lo hi : Int) : Con 44 [.int .i64 x, .int .i64 lo, .int .i64 hi] (.bool (inI x lo hi)) [none, none, none] := by
  refine con Try.func44 ?_
  refine ⟨fun h => ⟨.of_eq (congrArg AV.bool ?_), trivial⟩, fun h => ⟨.of_eq (congrArg AV.bool ?_), trivial⟩⟩ <;> rw [inI, h] <;> rfl
theorem impl_isWord (x : Int) : Con 39 [.int .i64 x] (.bool (inI x 0 65535)) [none] := by
  refine con Try.func39 ?_
  exact ⟨[.ro, .ro, .ro], .bool (inI x 0 65535), [none, none, none], impl_within x 0 65535, trivial, .refl _, trivial⟩
theorem impl_isReg (x : Int) : Con 61 [.int .i64 x] (.bool (inI x 0 7)) [none] := by
  refine con Try.func61 ?_
  exact ⟨[.ro, .ro, .ro], .bool (inI x 0 7), [none, none, none], impl_within x 0 7, trivial, .refl _, trivial⟩
theorem byteAt_in (s : ByteArray) (i : Int) : 0 ≤ byteAt s i ∧ byteAt s i ≤ 255 := by
  have := UInt8.toNat_lt (s.data.toList.getD i.toNat 0)
  rw [byteAt]; omega
def small (s : ByteArray) (i : Nat) : Bool := inI (byteAt s i) 97 122
def part (s : ByteArray) (i : Nat) : Bool := small s i || inI (byteAt s i) 48 57
/-- Letters and digits, of which the first is a letter; 1 to 6 of them. -/
def form (s : ByteArray) : Bool := inI s.size 1 6 && (small s 0 && (List.range s.size).all (part s))
def keptWords : List ByteArray := [⟨#[109, 111, 118]⟩, ⟨#[99, 109, 112]⟩, ⟨#[98, 105, 99]⟩, ⟨#[98, 105, 115]⟩, ⟨#[97, 100, 100]⟩, ⟨#[115, 117, 98]⟩, ⟨#[99, 108, 114]⟩, ⟨#[105, 110, 99]⟩, ⟨#[100, 101, 99]⟩, ⟨#[110, 101, 103]⟩, ⟨#[116, 115, 116]⟩, ⟨#[97, 115, 114]⟩, ⟨#[97, 115, 108]⟩, ⟨#[106, 109, 112]⟩, ⟨#[106, 115, 114]⟩, ⟨#[114, 116, 115]⟩, ⟨#[98, 114]⟩, ⟨#[98, 110, 101]⟩, ⟨#[98, 101, 113]⟩, ⟨#[98, 103, 101]⟩, ⟨#[98, 108, 116]⟩, ⟨#[104, 97, 108, 116]⟩, ⟨#[101, 109, 116]⟩]
def regNames : List ByteArray := [⟨#[114, 48]⟩, ⟨#[114, 49]⟩, ⟨#[114, 50]⟩, ⟨#[114, 51]⟩, ⟨#[114, 52]⟩, ⟨#[114, 53]⟩, ⟨#[115, 112]⟩, ⟨#[112, 99]⟩]
def formAt (s : ByteArray) (i : Nat) : Bool := small s i || (!decide (i = 0) && inI (byteAt s i) 48 57)
theorem form_formAt (s : ByteArray) : form s = ((List.range s.size).all (formAt s) && inI s.size 1 6) := by
  rw [form, Bool.and_comm]
  cases hn : inI s.size 1 6 with
  | false => simp
  | true =>
    have h1 : 1 ≤ s.size := by simp [inI] at hn; omega
    simp only [Bool.and_true]
    rw [Bool.eq_iff_iff]
    simp only [Bool.and_eq_true, List.all_eq_true, List.mem_range]
    constructor
    · rintro ⟨h0, ha⟩ i hi
      rcases Nat.eq_zero_or_pos i with rfl | h2
      · rw [formAt, h0]; rfl
      · have := ha i hi
        rw [part] at this
        rw [formAt, decide_eq_false (by omega)]; simpa using this
    · intro ha
      refine ⟨by simpa [formAt] using ha 0 h1, fun i hi => ?_⟩
      have := ha i hi
      simp only [formAt, part, Bool.or_eq_true, Bool.and_eq_true] at this ⊢
      rcases this with h | h
      · exact .inl h
      · exact .inr h.2
/-- Where letters and digits end. -/
def runEnd (s : ByteArray) (i : Nat) : Nat := if i < s.size ∧ part s i = true then runEnd s (i + 1) else i
termination_by s.size - i
theorem runEnd_yes (s : ByteArray) (i : Nat) (h : i < s.size) (hp : part s i = true) : runEnd s i = runEnd s (i + 1) := by rw [runEnd, if_pos ⟨h, hp⟩]
theorem runEnd_no (s : ByteArray) (i : Nat) (h : ¬ (i < s.size ∧ part s i = true)) : runEnd s i = i := by rw [runEnd, if_neg h]
theorem runEnd_le (s : ByteArray) : ∀ (n i : Nat), s.size - i = n → i ≤ s.size → i ≤ runEnd s i ∧ runEnd s i ≤ s.size := by
  intro n
  induction n with
  | zero => intro i h1 h2; rw [runEnd_no s i (by omega)]; omega
  | succ n ih =>
    intro i h1 h2
    by_cases h : i < s.size ∧ part s i = true
    · rw [runEnd_yes s i h.1 h.2]
      have := ih (i + 1) (by omega) (by omega)
      omega
    · rw [runEnd_no s i h]; omega
theorem runEnd_all (s : ByteArray) : ∀ (n i : Nat), s.size - i = n → i ≤ s.size → (runEnd s i = s.size ↔ ∀ j, i ≤ j → j < s.size → part s j = true) := by
  intro n
  induction n with
  | zero => intro i h1 h2; rw [runEnd_no s i (by omega)]; exact ⟨fun _ j _ _ => by omega, fun _ => by omega⟩
  | succ n ih =>
    intro i h1 h2
    by_cases h : i < s.size ∧ part s i = true
    · rw [runEnd_yes s i h.1 h.2, ih (i + 1) (by omega) (by omega)]
      refine ⟨fun ha j h3 h4 => ?_, fun ha j h3 h4 => ha j (by omega) h4⟩
      rcases Nat.eq_or_lt_of_le h3 with rfl | h5
      · exact h.2
      · exact ha j h5 h4
    · rw [runEnd_no s i h]
      exact ⟨fun e => by omega, fun ha => absurd ⟨by omega, ha i (Nat.le_refl _) (by omega)⟩ h⟩
theorem extract_self (s : ByteArray) (m : Nat) (h : m ≤ s.size) : (s.extract 0 m = s) ↔ m = s.size := by
  constructor
  · intro e
    have := congrArg ByteArray.size e
    simp only [ByteArray.size_extract] at this
    omega
  · rintro rfl
    exact ByteArray.extract_zero_size
theorem form_run (s : ByteArray) (h : 1 ≤ s.size) : (List.range s.size).all (part s) = decide (s.extract 0 (runEnd s 0) = s) := by
  rw [Bool.eq_iff_iff, decide_eq_true_eq, extract_self s _ (runEnd_le s _ 0 rfl (by omega)).2, runEnd_all s _ 0 rfl (by omega)]
  simp [List.all_eq_true]
theorem placeOf_any (l : List GString) (s : ByteArray) : decide (0 ≤ placeOf l s) = l.any (fun x => decide (x = s)) := idxOf_any (fun x : GString => decide (x = s)) l
/-- A word that is kept. -/
def kept (s : ByteArray) : Bool := (keptWords ++ regNames).any fun x => decide (x = s)
def isNm (s : ByteArray) : Bool := form s && !kept s
end Go.Proofs.VI
