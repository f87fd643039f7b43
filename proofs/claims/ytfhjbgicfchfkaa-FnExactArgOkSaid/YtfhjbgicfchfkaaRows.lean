/-
  NARROWER THAN 'FOR EVERY INPUT', by the rows' own cells (each row's printed sentence says how): FnExactSizeOf: loops · FnExactArgOk: loops · FnExactHas: loops · FnExactSameObj: loops.
  DERIVED. THE GIVEN ROWS OF THIS SEAT. 6 by the template 'for every input the law returns true; each argument reads behind the call as it read before'; 0 by the template 'total and deterministic' (their statements: YtfhjbgicfchfkaaTotals.lean).
  GIVEN WITH THE SEED: the statements are not yours to turn. If you find one false, say at which input.
  Laid BY PROGRAM, IN A SANDBOX (cutbox-rows.mjs): the forced cells as the released guide's own fill.sh prints them over the translation d6562e5d5b12975f… (all of the seat's roots in one cut). By AI agents, Wed Nov 11 2026. No macro, syntax, notation, axiom, sorry.
-/
import Derived.Test.YtfhjbgicfchfkaaChecked
import GoSem.Claim
import GoSem.ClaimJoined
import GoSem.ClaimMapViews
import Derived.JoinedTies
import Derived.KernelRfl
namespace Go.Proofs.Ytfhjbgicfchfkaa
/- THE CELL 'sum', in the pinned program and in every row, IS THE sha256 OF THE DUMP (.gsa) THAT YtfhjbgicfchfkaaProg.lean LOADS. Nothing in Lean hashes anything: it is a label: what it is worth is what the hold of that sum in a sandbox is worth. -/
noncomputable def Try.pinned : Pinned := { name := "ytfhjbgicfchfkaa", sum := "d6562e5d5b12975fb7c346c4a84870c3307d0ca54116d47bc8e400b032b50522", checked := Try.checked }
namespace Rows
def none {H : Type} : Left H := { results := [], args := [] }

/-- 'laws.FnExactArgsOf': WHATEVER THE INPUT: true; the input reads as it did. -/
def fnExactArgsOfSpec : ChangeSpec := { name := "fnExactArgsOf", fn := fun _ => fun
  | [d] => { results := [.lit (.bool true)], args := [d] }
  | _ => none }
def fnExactArgsOfRow : OpenClaim := { program := "ytfhjbgicfchfkaa", sum := "d6562e5d5b12975fb7c346c4a84870c3307d0ca54116d47bc8e400b032b50522", func := "loop.example/g00329/laws.FnExactArgsOf", spec := "fnExactArgsOf", apart := false }
def FnExactArgsOfSaid : Prop := fnExactArgsOfRow.holds Try.pinned (OpenSpec.ofChange fnExactArgsOfSpec)

/-- ITS FALSE NEIGHBOUR: 'it returns false'. Refute it at one input. -/
def fnExactArgsOfWrong : ChangeSpec := { name := "fnExactArgsOf", fn := fun _ => fun
  | [d] => { results := [.lit (.bool false)], args := [d] }
  | _ => none }
def FnExactArgsOfWrongFalsely : Prop := fnExactArgsOfRow.holds Try.pinned (OpenSpec.ofChange fnExactArgsOfWrong)

/-- 'laws.FnExactSubst': WHATEVER THE INPUT: true; the input reads as it did. -/
def fnExactSubstSpec : ChangeSpec := { name := "fnExactSubst", fn := fun _ => fun
  | [d1, d2, d3] => { results := [.lit (.bool true)], args := [d1, d2, d3] }
  | _ => none }
def fnExactSubstRow : OpenClaim := { program := "ytfhjbgicfchfkaa", sum := "d6562e5d5b12975fb7c346c4a84870c3307d0ca54116d47bc8e400b032b50522", func := "loop.example/g00329/laws.FnExactSubst", spec := "fnExactSubst", apart := false }
def FnExactSubstSaid : Prop := fnExactSubstRow.holds Try.pinned (OpenSpec.ofChange fnExactSubstSpec)

/-- ITS FALSE NEIGHBOUR: 'it returns false'. Refute it at one input. -/
def fnExactSubstWrong : ChangeSpec := { name := "fnExactSubst", fn := fun _ => fun
  | [d1, d2, d3] => { results := [.lit (.bool false)], args := [d1, d2, d3] }
  | _ => none }
def FnExactSubstWrongFalsely : Prop := fnExactSubstRow.holds Try.pinned (OpenSpec.ofChange fnExactSubstWrong)

/-- 'laws.FnExactSizeOf': WHATEVER THE INPUT: true; the input reads as it did. -/
def fnExactSizeOfSpec : ChangeSpec := { name := "fnExactSizeOf", fn := fun _ => fun
  | [d] => { results := [.lit (.bool true)], args := [d] }
  | _ => none }
def fnExactSizeOfRow : OpenClaim := { program := "ytfhjbgicfchfkaa", sum := "d6562e5d5b12975fb7c346c4a84870c3307d0ca54116d47bc8e400b032b50522", func := "loop.example/g00329/laws.FnExactSizeOf", spec := "fnExactSizeOf", recurses := true, loops := true, apart := false }
def FnExactSizeOfSaid : Prop := fnExactSizeOfRow.holds Try.pinned (OpenSpec.ofChange fnExactSizeOfSpec)

/-- ITS FALSE NEIGHBOUR: 'it returns false'. Refute it at one input. -/
def fnExactSizeOfWrong : ChangeSpec := { name := "fnExactSizeOf", fn := fun _ => fun
  | [d] => { results := [.lit (.bool false)], args := [d] }
  | _ => none }
def FnExactSizeOfWrongFalsely : Prop := fnExactSizeOfRow.holds Try.pinned (OpenSpec.ofChange fnExactSizeOfWrong)

/-- 'laws.FnExactArgOk': WHATEVER THE INPUT: true; the input reads as it did. -/
def fnExactArgOkSpec : ChangeSpec := { name := "fnExactArgOk", fn := fun _ => fun
  | [d] => { results := [.lit (.bool true)], args := [d] }
  | _ => none }
def fnExactArgOkRow : OpenClaim := { program := "ytfhjbgicfchfkaa", sum := "d6562e5d5b12975fb7c346c4a84870c3307d0ca54116d47bc8e400b032b50522", func := "loop.example/g00329/laws.FnExactArgOk", spec := "fnExactArgOk", recurses := true, loops := true, apart := false }
def FnExactArgOkSaid : Prop := fnExactArgOkRow.holds Try.pinned (OpenSpec.ofChange fnExactArgOkSpec)

/-- ITS FALSE NEIGHBOUR: 'it returns false'. Refute it at one input. -/
def fnExactArgOkWrong : ChangeSpec := { name := "fnExactArgOk", fn := fun _ => fun
  | [d] => { results := [.lit (.bool false)], args := [d] }
  | _ => none }
def FnExactArgOkWrongFalsely : Prop := fnExactArgOkRow.holds Try.pinned (OpenSpec.ofChange fnExactArgOkWrong)

/-- 'laws.FnExactHas': WHATEVER THE INPUT: true; the input reads as it did. -/
def fnExactHasSpec : ChangeSpec := { name := "fnExactHas", fn := fun _ => fun
  | [d1, d2] => { results := [.lit (.bool true)], args := [d1, d2] }
  | _ => none }
def fnExactHasRow : OpenClaim := { program := "ytfhjbgicfchfkaa", sum := "d6562e5d5b12975fb7c346c4a84870c3307d0ca54116d47bc8e400b032b50522", func := "loop.example/g00329/laws.FnExactHas", spec := "fnExactHas", unfollowed := true, recurses := true, loops := true, apart := false }
def FnExactHasSaid : Prop := fnExactHasRow.holds Try.pinned (OpenSpec.ofChange fnExactHasSpec)

/-- ITS FALSE NEIGHBOUR: 'it returns false'. Refute it at one input. -/
def fnExactHasWrong : ChangeSpec := { name := "fnExactHas", fn := fun _ => fun
  | [d1, d2] => { results := [.lit (.bool false)], args := [d1, d2] }
  | _ => none }
def FnExactHasWrongFalsely : Prop := fnExactHasRow.holds Try.pinned (OpenSpec.ofChange fnExactHasWrong)

/-- 'laws.FnExactSameObj': WHATEVER THE INPUT: true; the input reads as it did. -/
def fnExactSameObjSpec : ChangeSpec := { name := "fnExactSameObj", fn := fun _ => fun
  | [d1, d2] => { results := [.lit (.bool true)], args := [d1, d2] }
  | _ => none }
def fnExactSameObjRow : OpenClaim := { program := "ytfhjbgicfchfkaa", sum := "d6562e5d5b12975fb7c346c4a84870c3307d0ca54116d47bc8e400b032b50522", func := "loop.example/g00329/laws.FnExactSameObj", spec := "fnExactSameObj", recurses := true, loops := true, apart := false }
def FnExactSameObjSaid : Prop := fnExactSameObjRow.holds Try.pinned (OpenSpec.ofChange fnExactSameObjSpec)

/-- ITS FALSE NEIGHBOUR: 'it returns false'. Refute it at one input. -/
def fnExactSameObjWrong : ChangeSpec := { name := "fnExactSameObj", fn := fun _ => fun
  | [d1, d2] => { results := [.lit (.bool false)], args := [d1, d2] }
  | _ => none }
def FnExactSameObjWrongFalsely : Prop := fnExactSameObjRow.holds Try.pinned (OpenSpec.ofChange fnExactSameObjWrong)

/- THE SECOND FORM. 'bulk': how many values and letters a reading holds, each counted each time it is reached (what is shared counts as often as it is met; a slice's spare places count too). A statement '..UptoSaid' is the law's where the arguments, and the package variables that the reading takes, are together of bulk at most 1048576: NARROWER than '..Said'. Prove '..Said' where nothing that the law and all that it calls make is longer than what came in: it says more and counts as full. Else prove '..UptoSaid'. A law counts once. -/
mutual
def uptoBulk {H : Type} : DataW H → Nat
  | .lit (.string bytes) => bytes.length + 1
  | .lit _ => 1
  | .nil => 1
  | .ptr d => uptoBulk d + 1
  | .slice elems spare => uptoBulkAll elems + uptoBulkAll spare + 1
  | .agg parts => uptoBulkAll parts + 1
  | .iface _ d => uptoBulk d + 1
  | .map entries => uptoBulkEntries entries + 1
  | .held _ => 1
def uptoBulkAll {H : Type} : List (DataW H) → Nat
  | [] => 0
  | d :: r => uptoBulk d + uptoBulkAll r
def uptoBulkEntries {H : Type} : List (Lit × DataW H) → Nat
  | [] => 0
  | x :: r => uptoBulkEntry x + uptoBulkEntries r
def uptoBulkEntry {H : Type} : Lit × DataW H → Nat
  | (.string bytes, d) => bytes.length + uptoBulk d + 1
  | (_, d) => uptoBulk d + 1
 end
def uptoSmall : (H : Type) → List (DataW H) → Bool := fun _ ds => decide (uptoBulkAll ds ≤ 1048576)
def OpenSpec.upto (s : _root_.Go.ChangeSpec) : _root_.Go.OpenSpec := { _root_.Go.OpenSpec.ofChange s with cond := some uptoSmall }

/-- 'laws.FnExactArgsOf', WHERE WHAT IT READS IS OF BULK AT MOST 1048576: true; the input reads as it did. -/
def fnExactArgsOfUptoRow : OpenClaim := { program := "ytfhjbgicfchfkaa", sum := "d6562e5d5b12975fb7c346c4a84870c3307d0ca54116d47bc8e400b032b50522", func := "loop.example/g00329/laws.FnExactArgsOf", spec := "fnExactArgsOf", apart := false, narrowed := true }
def FnExactArgsOfUptoSaid : Prop := fnExactArgsOfUptoRow.holds Try.pinned (OpenSpec.upto fnExactArgsOfSpec)

/-- 'laws.FnExactSubst', WHERE WHAT IT READS IS OF BULK AT MOST 1048576: true; the input reads as it did. -/
def fnExactSubstUptoRow : OpenClaim := { program := "ytfhjbgicfchfkaa", sum := "d6562e5d5b12975fb7c346c4a84870c3307d0ca54116d47bc8e400b032b50522", func := "loop.example/g00329/laws.FnExactSubst", spec := "fnExactSubst", apart := false, narrowed := true }
def FnExactSubstUptoSaid : Prop := fnExactSubstUptoRow.holds Try.pinned (OpenSpec.upto fnExactSubstSpec)

/-- 'laws.FnExactSizeOf', WHERE WHAT IT READS IS OF BULK AT MOST 1048576: true; the input reads as it did. -/
def fnExactSizeOfUptoRow : OpenClaim := { program := "ytfhjbgicfchfkaa", sum := "d6562e5d5b12975fb7c346c4a84870c3307d0ca54116d47bc8e400b032b50522", func := "loop.example/g00329/laws.FnExactSizeOf", spec := "fnExactSizeOf", recurses := true, loops := true, apart := false, narrowed := true }
def FnExactSizeOfUptoSaid : Prop := fnExactSizeOfUptoRow.holds Try.pinned (OpenSpec.upto fnExactSizeOfSpec)

/-- 'laws.FnExactArgOk', WHERE WHAT IT READS IS OF BULK AT MOST 1048576: true; the input reads as it did. -/
def fnExactArgOkUptoRow : OpenClaim := { program := "ytfhjbgicfchfkaa", sum := "d6562e5d5b12975fb7c346c4a84870c3307d0ca54116d47bc8e400b032b50522", func := "loop.example/g00329/laws.FnExactArgOk", spec := "fnExactArgOk", recurses := true, loops := true, apart := false, narrowed := true }
def FnExactArgOkUptoSaid : Prop := fnExactArgOkUptoRow.holds Try.pinned (OpenSpec.upto fnExactArgOkSpec)

/-- 'laws.FnExactHas', WHERE WHAT IT READS IS OF BULK AT MOST 1048576: true; the input reads as it did. -/
def fnExactHasUptoRow : OpenClaim := { program := "ytfhjbgicfchfkaa", sum := "d6562e5d5b12975fb7c346c4a84870c3307d0ca54116d47bc8e400b032b50522", func := "loop.example/g00329/laws.FnExactHas", spec := "fnExactHas", unfollowed := true, recurses := true, loops := true, apart := false, narrowed := true }
def FnExactHasUptoSaid : Prop := fnExactHasUptoRow.holds Try.pinned (OpenSpec.upto fnExactHasSpec)

/-- 'laws.FnExactSameObj', WHERE WHAT IT READS IS OF BULK AT MOST 1048576: true; the input reads as it did. -/
def fnExactSameObjUptoRow : OpenClaim := { program := "ytfhjbgicfchfkaa", sum := "d6562e5d5b12975fb7c346c4a84870c3307d0ca54116d47bc8e400b032b50522", func := "loop.example/g00329/laws.FnExactSameObj", spec := "fnExactSameObj", recurses := true, loops := true, apart := false, narrowed := true }
def FnExactSameObjUptoSaid : Prop := fnExactSameObjUptoRow.holds Try.pinned (OpenSpec.upto fnExactSameObjSpec)

end Rows
end Go.Proofs.Ytfhjbgicfchfkaa
