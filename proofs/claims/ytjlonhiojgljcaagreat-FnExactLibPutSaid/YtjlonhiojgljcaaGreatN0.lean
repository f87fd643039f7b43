/- Contracts of functions, and what they rest on: l15sorted. -/
import Derived.Test.YtjlonhiojgljcaaGreatX1
import Derived.Test.YtjlonhiojgljcaaGreatX2
import Derived.Test.YtjlonhiojgljcaaGreatF6
set_option linter.unusedVariables false
set_option linter.unusedSimpArgs false
set_option maxRecDepth 10000
set_option maxHeartbeats 4000000
namespace Go.Proofs.VI
open Go
theorem bytesLess_lt : ∀ (x y : List UInt8), Op.bytesLess x y = decide (x < y)
  | [], [] => by simp [Op.bytesLess]
  | _ :: _, [] => by simp [Op.bytesLess]
  | [], _ :: _ => by simp [Op.bytesLess]
  | a :: x, b :: y => by
    rw [Op.bytesLess, bytesLess_lt x y]
    simp only [List.cons_lt_cons_iff]
    by_cases h1 : a < b <;> by_cases h2 : a = b <;> by_cases h3 : x < y <;> simp [h1, h2, h3]
theorem less_kS (a b : ByteArray) : Op.bytesLess a.toList b.toList = decide (kS a < kS b) := by
  rw [bytesLess_lt, ByteArray.toList_eq, ByteArray.toList_eq]; rfl
end Go.Proofs.VI
