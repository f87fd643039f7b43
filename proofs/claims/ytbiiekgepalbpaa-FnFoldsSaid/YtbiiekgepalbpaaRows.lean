/-
  NARROWER THAN 'FOR EVERY INPUT', by the rows' own cells (each row's printed sentence says how): FnExactPutExpr: loops · FnExactApart: loops · FnExactLineOk: loops · FnExactBasesOf: loops · FnExactWordsOf: loops · FnExactObjOk: loops.
  DERIVED. THE GIVEN ROWS OF THIS SEAT. 12 by the template 'for every input the law returns true; each argument reads behind the call as it read before'; 0 by the template 'total and deterministic' (their statements: YtbiiekgepalbpaaTotals.lean).
  GIVEN WITH THE SEED: the statements are not yours to turn. If you find one false, say at which input.
  Laid BY PROGRAM, IN A SANDBOX (cutbox-rows.mjs): the forced cells as the released guide's own fill.sh prints them over the translation c71882a9826bec7f… (all of the seat's roots in one cut). By AI agents, Wed Nov 11 2026. No macro, syntax, notation, axiom, sorry.
-/
import Derived.Test.YtbiiekgepalbpaaChecked
import GoSem.Claim
import GoSem.ClaimJoined
import GoSem.ClaimMapViews
import Derived.JoinedTies
import Derived.KernelRfl
namespace Go.Proofs.Ytbiiekgepalbpaa
/- THE CELL 'sum', in the pinned program and in every row, IS THE sha256 OF THE DUMP (.gsa) THAT YtbiiekgepalbpaaProg.lean LOADS. Nothing in Lean hashes anything: it is a label: what it is worth is what the hold of that sum in a sandbox is worth. -/
noncomputable def Try.pinned : Pinned := { name := "ytbiiekgepalbpaa", sum := "c71882a9826bec7fc839c251f892f5bb30fcc75cc36878e60af50a9d92f19d48", checked := Try.checked }
namespace Rows
def none {H : Type} : Left H := { results := [], args := [] }

/-- 'laws.FnExactPutExpr': WHATEVER THE INPUT: true; the input reads as it did. -/
def fnExactPutExprSpec : ChangeSpec := { name := "fnExactPutExpr", fn := fun _ => fun
  | [d1, d2] => { results := [.lit (.bool true)], args := [d1, d2] }
  | _ => none }
def fnExactPutExprRow : OpenClaim := { program := "ytbiiekgepalbpaa", sum := "c71882a9826bec7fc839c251f892f5bb30fcc75cc36878e60af50a9d92f19d48", func := "loop.example/g00329/laws.FnExactPutExpr", spec := "fnExactPutExpr", recurses := true, loops := true, apart := false }
def FnExactPutExprSaid : Prop := fnExactPutExprRow.holds Try.pinned (OpenSpec.ofChange fnExactPutExprSpec)

/-- ITS FALSE NEIGHBOUR: 'it returns false'. Refute it at one input. -/
def fnExactPutExprWrong : ChangeSpec := { name := "fnExactPutExpr", fn := fun _ => fun
  | [d1, d2] => { results := [.lit (.bool false)], args := [d1, d2] }
  | _ => none }
def FnExactPutExprWrongFalsely : Prop := fnExactPutExprRow.holds Try.pinned (OpenSpec.ofChange fnExactPutExprWrong)

/-- 'laws.FnExactApart': WHATEVER THE INPUT: true; the input reads as it did. -/
def fnExactApartSpec : ChangeSpec := { name := "fnExactApart", fn := fun _ => fun
  | [d1, d2] => { results := [.lit (.bool true)], args := [d1, d2] }
  | _ => none }
def fnExactApartRow : OpenClaim := { program := "ytbiiekgepalbpaa", sum := "c71882a9826bec7fc839c251f892f5bb30fcc75cc36878e60af50a9d92f19d48", func := "loop.example/g00329/laws.FnExactApart", spec := "fnExactApart", recurses := true, loops := true, apart := false }
def FnExactApartSaid : Prop := fnExactApartRow.holds Try.pinned (OpenSpec.ofChange fnExactApartSpec)

/-- ITS FALSE NEIGHBOUR: 'it returns false'. Refute it at one input. -/
def fnExactApartWrong : ChangeSpec := { name := "fnExactApart", fn := fun _ => fun
  | [d1, d2] => { results := [.lit (.bool false)], args := [d1, d2] }
  | _ => none }
def FnExactApartWrongFalsely : Prop := fnExactApartRow.holds Try.pinned (OpenSpec.ofChange fnExactApartWrong)

/-- 'laws.FnExactGetExpr': WHATEVER THE INPUT: true; the input reads as it did. -/
def fnExactGetExprSpec : ChangeSpec := { name := "fnExactGetExpr", fn := fun _ => fun
  | [d1, d2] => { results := [.lit (.bool true)], args := [d1, d2] }
  | _ => none }
def fnExactGetExprRow : OpenClaim := { program := "ytbiiekgepalbpaa", sum := "c71882a9826bec7fc839c251f892f5bb30fcc75cc36878e60af50a9d92f19d48", func := "loop.example/g00329/laws.FnExactGetExpr", spec := "fnExactGetExpr", recurses := true, apart := false }
def FnExactGetExprSaid : Prop := fnExactGetExprRow.holds Try.pinned (OpenSpec.ofChange fnExactGetExprSpec)

/-- ITS FALSE NEIGHBOUR: 'it returns false'. Refute it at one input. -/
def fnExactGetExprWrong : ChangeSpec := { name := "fnExactGetExpr", fn := fun _ => fun
  | [d1, d2] => { results := [.lit (.bool false)], args := [d1, d2] }
  | _ => none }
def FnExactGetExprWrongFalsely : Prop := fnExactGetExprRow.holds Try.pinned (OpenSpec.ofChange fnExactGetExprWrong)

/-- 'laws.FnExactLineOk': WHATEVER THE INPUT: true; the input reads as it did. -/
def fnExactLineOkSpec : ChangeSpec := { name := "fnExactLineOk", fn := fun _ => fun
  | [d] => { results := [.lit (.bool true)], args := [d] }
  | _ => none }
def fnExactLineOkRow : OpenClaim := { program := "ytbiiekgepalbpaa", sum := "c71882a9826bec7fc839c251f892f5bb30fcc75cc36878e60af50a9d92f19d48", func := "loop.example/g00329/laws.FnExactLineOk", spec := "fnExactLineOk", recurses := true, loops := true, apart := false }
def FnExactLineOkSaid : Prop := fnExactLineOkRow.holds Try.pinned (OpenSpec.ofChange fnExactLineOkSpec)

/-- ITS FALSE NEIGHBOUR: 'it returns false'. Refute it at one input. -/
def fnExactLineOkWrong : ChangeSpec := { name := "fnExactLineOk", fn := fun _ => fun
  | [d] => { results := [.lit (.bool false)], args := [d] }
  | _ => none }
def FnExactLineOkWrongFalsely : Prop := fnExactLineOkRow.holds Try.pinned (OpenSpec.ofChange fnExactLineOkWrong)

/-- 'laws.FnExactBasesOf': WHATEVER THE INPUT: true; the input reads as it did. -/
def fnExactBasesOfSpec : ChangeSpec := { name := "fnExactBasesOf", fn := fun _ => fun
  | [d1, d2, d3] => { results := [.lit (.bool true)], args := [d1, d2, d3] }
  | _ => none }
def fnExactBasesOfRow : OpenClaim := { program := "ytbiiekgepalbpaa", sum := "c71882a9826bec7fc839c251f892f5bb30fcc75cc36878e60af50a9d92f19d48", func := "loop.example/g00329/laws.FnExactBasesOf", spec := "fnExactBasesOf", unfollowed := true, recurses := true, loops := true, apart := false }
def FnExactBasesOfSaid : Prop := fnExactBasesOfRow.holds Try.pinned (OpenSpec.ofChange fnExactBasesOfSpec)

/-- ITS FALSE NEIGHBOUR: 'it returns false'. Refute it at one input. -/
def fnExactBasesOfWrong : ChangeSpec := { name := "fnExactBasesOf", fn := fun _ => fun
  | [d1, d2, d3] => { results := [.lit (.bool false)], args := [d1, d2, d3] }
  | _ => none }
def FnExactBasesOfWrongFalsely : Prop := fnExactBasesOfRow.holds Try.pinned (OpenSpec.ofChange fnExactBasesOfWrong)

/-- 'laws.FnArith': WHATEVER THE INPUT: true; the input reads as it did. -/
def fnArithSpec : ChangeSpec := { name := "fnArith", fn := fun _ => fun
  | [d] => { results := [.lit (.bool true)], args := [d] }
  | _ => none }
def fnArithRow : OpenClaim := { program := "ytbiiekgepalbpaa", sum := "c71882a9826bec7fc839c251f892f5bb30fcc75cc36878e60af50a9d92f19d48", func := "loop.example/g00329/laws.FnArith", spec := "fnArith", apart := false }
def FnArithSaid : Prop := fnArithRow.holds Try.pinned (OpenSpec.ofChange fnArithSpec)

/-- ITS FALSE NEIGHBOUR: 'it returns false'. Refute it at one input. -/
def fnArithWrong : ChangeSpec := { name := "fnArith", fn := fun _ => fun
  | [d] => { results := [.lit (.bool false)], args := [d] }
  | _ => none }
def FnArithWrongFalsely : Prop := fnArithRow.holds Try.pinned (OpenSpec.ofChange fnArithWrong)

/-- 'laws.FnCalled': WHATEVER THE INPUT: true; the input reads as it did. -/
def fnCalledSpec : ChangeSpec := { name := "fnCalled", fn := fun _ => fun
  | [d] => { results := [.lit (.bool true)], args := [d] }
  | _ => none }
def fnCalledRow : OpenClaim := { program := "ytbiiekgepalbpaa", sum := "c71882a9826bec7fc839c251f892f5bb30fcc75cc36878e60af50a9d92f19d48", func := "loop.example/g00329/laws.FnCalled", spec := "fnCalled", apart := false }
def FnCalledSaid : Prop := fnCalledRow.holds Try.pinned (OpenSpec.ofChange fnCalledSpec)

/-- ITS FALSE NEIGHBOUR: 'it returns false'. Refute it at one input. -/
def fnCalledWrong : ChangeSpec := { name := "fnCalled", fn := fun _ => fun
  | [d] => { results := [.lit (.bool false)], args := [d] }
  | _ => none }
def FnCalledWrongFalsely : Prop := fnCalledRow.holds Try.pinned (OpenSpec.ofChange fnCalledWrong)

/-- 'laws.FnPushed': WHATEVER THE INPUT: true; the input reads as it did. -/
def fnPushedSpec : ChangeSpec := { name := "fnPushed", fn := fun _ => fun
  | [d] => { results := [.lit (.bool true)], args := [d] }
  | _ => none }
def fnPushedRow : OpenClaim := { program := "ytbiiekgepalbpaa", sum := "c71882a9826bec7fc839c251f892f5bb30fcc75cc36878e60af50a9d92f19d48", func := "loop.example/g00329/laws.FnPushed", spec := "fnPushed", apart := false }
def FnPushedSaid : Prop := fnPushedRow.holds Try.pinned (OpenSpec.ofChange fnPushedSpec)

/-- ITS FALSE NEIGHBOUR: 'it returns false'. Refute it at one input. -/
def fnPushedWrong : ChangeSpec := { name := "fnPushed", fn := fun _ => fun
  | [d] => { results := [.lit (.bool false)], args := [d] }
  | _ => none }
def FnPushedWrongFalsely : Prop := fnPushedRow.holds Try.pinned (OpenSpec.ofChange fnPushedWrong)

/-- 'laws.FnKnown': WHATEVER THE INPUT: true; the input reads as it did. -/
def fnKnownSpec : ChangeSpec := { name := "fnKnown", fn := fun _ => fun
  | [d] => { results := [.lit (.bool true)], args := [d] }
  | _ => none }
def fnKnownRow : OpenClaim := { program := "ytbiiekgepalbpaa", sum := "c71882a9826bec7fc839c251f892f5bb30fcc75cc36878e60af50a9d92f19d48", func := "loop.example/g00329/laws.FnKnown", spec := "fnKnown", recurses := true, apart := false }
def FnKnownSaid : Prop := fnKnownRow.holds Try.pinned (OpenSpec.ofChange fnKnownSpec)

/-- ITS FALSE NEIGHBOUR: 'it returns false'. Refute it at one input. -/
def fnKnownWrong : ChangeSpec := { name := "fnKnown", fn := fun _ => fun
  | [d] => { results := [.lit (.bool false)], args := [d] }
  | _ => none }
def FnKnownWrongFalsely : Prop := fnKnownRow.holds Try.pinned (OpenSpec.ofChange fnKnownWrong)

/-- 'laws.FnFolds': WHATEVER THE INPUT: true; the input reads as it did. -/
def fnFoldsSpec : ChangeSpec := { name := "fnFolds", fn := fun _ => fun
  | [d] => { results := [.lit (.bool true)], args := [d] }
  | _ => none }
def fnFoldsRow : OpenClaim := { program := "ytbiiekgepalbpaa", sum := "c71882a9826bec7fc839c251f892f5bb30fcc75cc36878e60af50a9d92f19d48", func := "loop.example/g00329/laws.FnFolds", spec := "fnFolds", recurses := true, apart := false }
def FnFoldsSaid : Prop := fnFoldsRow.holds Try.pinned (OpenSpec.ofChange fnFoldsSpec)

/-- ITS FALSE NEIGHBOUR: 'it returns false'. Refute it at one input. -/
def fnFoldsWrong : ChangeSpec := { name := "fnFolds", fn := fun _ => fun
  | [d] => { results := [.lit (.bool false)], args := [d] }
  | _ => none }
def FnFoldsWrongFalsely : Prop := fnFoldsRow.holds Try.pinned (OpenSpec.ofChange fnFoldsWrong)

/-- 'laws.FnExactWordsOf': WHATEVER THE INPUT: true; the input reads as it did. -/
def fnExactWordsOfSpec : ChangeSpec := { name := "fnExactWordsOf", fn := fun _ => fun
  | [d] => { results := [.lit (.bool true)], args := [d] }
  | _ => none }
def fnExactWordsOfRow : OpenClaim := { program := "ytbiiekgepalbpaa", sum := "c71882a9826bec7fc839c251f892f5bb30fcc75cc36878e60af50a9d92f19d48", func := "loop.example/g00329/laws.FnExactWordsOf", spec := "fnExactWordsOf", recurses := true, loops := true, apart := false }
def FnExactWordsOfSaid : Prop := fnExactWordsOfRow.holds Try.pinned (OpenSpec.ofChange fnExactWordsOfSpec)

/-- ITS FALSE NEIGHBOUR: 'it returns false'. Refute it at one input. -/
def fnExactWordsOfWrong : ChangeSpec := { name := "fnExactWordsOf", fn := fun _ => fun
  | [d] => { results := [.lit (.bool false)], args := [d] }
  | _ => none }
def FnExactWordsOfWrongFalsely : Prop := fnExactWordsOfRow.holds Try.pinned (OpenSpec.ofChange fnExactWordsOfWrong)

/-- 'laws.FnExactObjOk': WHATEVER THE INPUT: true; the input reads as it did. -/
def fnExactObjOkSpec : ChangeSpec := { name := "fnExactObjOk", fn := fun _ => fun
  | [d] => { results := [.lit (.bool true)], args := [d] }
  | _ => none }
def fnExactObjOkRow : OpenClaim := { program := "ytbiiekgepalbpaa", sum := "c71882a9826bec7fc839c251f892f5bb30fcc75cc36878e60af50a9d92f19d48", func := "loop.example/g00329/laws.FnExactObjOk", spec := "fnExactObjOk", unfollowed := true, recurses := true, loops := true, apart := false }
def FnExactObjOkSaid : Prop := fnExactObjOkRow.holds Try.pinned (OpenSpec.ofChange fnExactObjOkSpec)

/-- ITS FALSE NEIGHBOUR: 'it returns false'. Refute it at one input. -/
def fnExactObjOkWrong : ChangeSpec := { name := "fnExactObjOk", fn := fun _ => fun
  | [d] => { results := [.lit (.bool false)], args := [d] }
  | _ => none }
def FnExactObjOkWrongFalsely : Prop := fnExactObjOkRow.holds Try.pinned (OpenSpec.ofChange fnExactObjOkWrong)

/- THE SECOND FORM. 'bulk': how many values and letters a reading holds, each counted each time it is reached (what is shared counts as often as it is met; a slice's spare places count too). A statement '..UptoSaid' is the law's where the arguments, and the package variables that the reading takes, are together of bulk at most 1048576: NARROWER than '..Said'. Prove '..Said' where nothing that the law and all that it calls make is longer than what came in: it says more and counts as full. Else prove '..UptoSaid'. A law counts once. -/
mutual
def uptoBulk {H : Type} : DataW H → Nat
  | .lit (.string bytes) => bytes.length + 1
  | .lit _ => 1
  | .nil => 1
  | .ptr d => uptoBulk d + 1
  | .slice elems spare => uptoBulkAll elems + uptoBulkAll spare + 1
  | .agg parts => uptoBulkAll parts + 1
  | .iface _ d => uptoBulk d + 1
  | .map entries => uptoBulkEntries entries + 1
  | .held _ => 1
def uptoBulkAll {H : Type} : List (DataW H) → Nat
  | [] => 0
  | d :: r => uptoBulk d + uptoBulkAll r
def uptoBulkEntries {H : Type} : List (Lit × DataW H) → Nat
  | [] => 0
  | x :: r => uptoBulkEntry x + uptoBulkEntries r
def uptoBulkEntry {H : Type} : Lit × DataW H → Nat
  | (.string bytes, d) => bytes.length + uptoBulk d + 1
  | (_, d) => uptoBulk d + 1
 end
def uptoSmall : (H : Type) → List (DataW H) → Bool := fun _ ds => decide (uptoBulkAll ds ≤ 1048576)
def OpenSpec.upto (s : _root_.Go.ChangeSpec) : _root_.Go.OpenSpec := { _root_.Go.OpenSpec.ofChange s with cond := some uptoSmall }

/-- 'laws.FnExactPutExpr', WHERE WHAT IT READS IS OF BULK AT MOST 1048576: true; the input reads as it did. -/
def fnExactPutExprUptoRow : OpenClaim := { program := "ytbiiekgepalbpaa", sum := "c71882a9826bec7fc839c251f892f5bb30fcc75cc36878e60af50a9d92f19d48", func := "loop.example/g00329/laws.FnExactPutExpr", spec := "fnExactPutExpr", recurses := true, loops := true, apart := false, narrowed := true }
def FnExactPutExprUptoSaid : Prop := fnExactPutExprUptoRow.holds Try.pinned (OpenSpec.upto fnExactPutExprSpec)

/-- 'laws.FnExactApart', WHERE WHAT IT READS IS OF BULK AT MOST 1048576: true; the input reads as it did. -/
def fnExactApartUptoRow : OpenClaim := { program := "ytbiiekgepalbpaa", sum := "c71882a9826bec7fc839c251f892f5bb30fcc75cc36878e60af50a9d92f19d48", func := "loop.example/g00329/laws.FnExactApart", spec := "fnExactApart", recurses := true, loops := true, apart := false, narrowed := true }
def FnExactApartUptoSaid : Prop := fnExactApartUptoRow.holds Try.pinned (OpenSpec.upto fnExactApartSpec)

/-- 'laws.FnExactGetExpr', WHERE WHAT IT READS IS OF BULK AT MOST 1048576: true; the input reads as it did. -/
def fnExactGetExprUptoRow : OpenClaim := { program := "ytbiiekgepalbpaa", sum := "c71882a9826bec7fc839c251f892f5bb30fcc75cc36878e60af50a9d92f19d48", func := "loop.example/g00329/laws.FnExactGetExpr", spec := "fnExactGetExpr", recurses := true, apart := false, narrowed := true }
def FnExactGetExprUptoSaid : Prop := fnExactGetExprUptoRow.holds Try.pinned (OpenSpec.upto fnExactGetExprSpec)

/-- 'laws.FnExactLineOk', WHERE WHAT IT READS IS OF BULK AT MOST 1048576: true; the input reads as it did. -/
def fnExactLineOkUptoRow : OpenClaim := { program := "ytbiiekgepalbpaa", sum := "c71882a9826bec7fc839c251f892f5bb30fcc75cc36878e60af50a9d92f19d48", func := "loop.example/g00329/laws.FnExactLineOk", spec := "fnExactLineOk", recurses := true, loops := true, apart := false, narrowed := true }
def FnExactLineOkUptoSaid : Prop := fnExactLineOkUptoRow.holds Try.pinned (OpenSpec.upto fnExactLineOkSpec)

/-- 'laws.FnExactBasesOf', WHERE WHAT IT READS IS OF BULK AT MOST 1048576: true; the input reads as it did. -/
def fnExactBasesOfUptoRow : OpenClaim := { program := "ytbiiekgepalbpaa", sum := "c71882a9826bec7fc839c251f892f5bb30fcc75cc36878e60af50a9d92f19d48", func := "loop.example/g00329/laws.FnExactBasesOf", spec := "fnExactBasesOf", unfollowed := true, recurses := true, loops := true, apart := false, narrowed := true }
def FnExactBasesOfUptoSaid : Prop := fnExactBasesOfUptoRow.holds Try.pinned (OpenSpec.upto fnExactBasesOfSpec)

/-- 'laws.FnArith', WHERE WHAT IT READS IS OF BULK AT MOST 1048576: true; the input reads as it did. -/
def fnArithUptoRow : OpenClaim := { program := "ytbiiekgepalbpaa", sum := "c71882a9826bec7fc839c251f892f5bb30fcc75cc36878e60af50a9d92f19d48", func := "loop.example/g00329/laws.FnArith", spec := "fnArith", apart := false, narrowed := true }
def FnArithUptoSaid : Prop := fnArithUptoRow.holds Try.pinned (OpenSpec.upto fnArithSpec)

/-- 'laws.FnCalled', WHERE WHAT IT READS IS OF BULK AT MOST 1048576: true; the input reads as it did. -/
def fnCalledUptoRow : OpenClaim := { program := "ytbiiekgepalbpaa", sum := "c71882a9826bec7fc839c251f892f5bb30fcc75cc36878e60af50a9d92f19d48", func := "loop.example/g00329/laws.FnCalled", spec := "fnCalled", apart := false, narrowed := true }
def FnCalledUptoSaid : Prop := fnCalledUptoRow.holds Try.pinned (OpenSpec.upto fnCalledSpec)

/-- 'laws.FnPushed', WHERE WHAT IT READS IS OF BULK AT MOST 1048576: true; the input reads as it did. -/
def fnPushedUptoRow : OpenClaim := { program := "ytbiiekgepalbpaa", sum := "c71882a9826bec7fc839c251f892f5bb30fcc75cc36878e60af50a9d92f19d48", func := "loop.example/g00329/laws.FnPushed", spec := "fnPushed", apart := false, narrowed := true }
def FnPushedUptoSaid : Prop := fnPushedUptoRow.holds Try.pinned (OpenSpec.upto fnPushedSpec)

/-- 'laws.FnKnown', WHERE WHAT IT READS IS OF BULK AT MOST 1048576: true; the input reads as it did. -/
def fnKnownUptoRow : OpenClaim := { program := "ytbiiekgepalbpaa", sum := "c71882a9826bec7fc839c251f892f5bb30fcc75cc36878e60af50a9d92f19d48", func := "loop.example/g00329/laws.FnKnown", spec := "fnKnown", recurses := true, apart := false, narrowed := true }
def FnKnownUptoSaid : Prop := fnKnownUptoRow.holds Try.pinned (OpenSpec.upto fnKnownSpec)

/-- 'laws.FnFolds', WHERE WHAT IT READS IS OF BULK AT MOST 1048576: true; the input reads as it did. -/
def fnFoldsUptoRow : OpenClaim := { program := "ytbiiekgepalbpaa", sum := "c71882a9826bec7fc839c251f892f5bb30fcc75cc36878e60af50a9d92f19d48", func := "loop.example/g00329/laws.FnFolds", spec := "fnFolds", recurses := true, apart := false, narrowed := true }
def FnFoldsUptoSaid : Prop := fnFoldsUptoRow.holds Try.pinned (OpenSpec.upto fnFoldsSpec)

/-- 'laws.FnExactWordsOf', WHERE WHAT IT READS IS OF BULK AT MOST 1048576: true; the input reads as it did. -/
def fnExactWordsOfUptoRow : OpenClaim := { program := "ytbiiekgepalbpaa", sum := "c71882a9826bec7fc839c251f892f5bb30fcc75cc36878e60af50a9d92f19d48", func := "loop.example/g00329/laws.FnExactWordsOf", spec := "fnExactWordsOf", recurses := true, loops := true, apart := false, narrowed := true }
def FnExactWordsOfUptoSaid : Prop := fnExactWordsOfUptoRow.holds Try.pinned (OpenSpec.upto fnExactWordsOfSpec)

/-- 'laws.FnExactObjOk', WHERE WHAT IT READS IS OF BULK AT MOST 1048576: true; the input reads as it did. -/
def fnExactObjOkUptoRow : OpenClaim := { program := "ytbiiekgepalbpaa", sum := "c71882a9826bec7fc839c251f892f5bb30fcc75cc36878e60af50a9d92f19d48", func := "loop.example/g00329/laws.FnExactObjOk", spec := "fnExactObjOk", unfollowed := true, recurses := true, loops := true, apart := false, narrowed := true }
def FnExactObjOkUptoSaid : Prop := fnExactObjOkUptoRow.holds Try.pinned (OpenSpec.upto fnExactObjOkSpec)

end Rows
end Go.Proofs.Ytbiiekgepalbpaa
