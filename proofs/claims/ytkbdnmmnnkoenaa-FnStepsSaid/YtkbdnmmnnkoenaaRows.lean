/-
  No cell of these rows narrows 'for every input' (looked for: loops, veiled, ifaces, maps, wideKeys, modest, calm, conditions, laid).
  DERIVED. THE GIVEN ROWS OF THIS SEAT. 7 by the template 'for every input the law returns true; each argument reads behind the call as it read before'; 0 by the template 'total and deterministic' (their statements: YtkbdnmmnnkoenaaTotals.lean).
  GIVEN WITH THE SEED: the statements are not yours to turn. If you find one false, say at which input.
  Laid BY PROGRAM, IN A SANDBOX (cutbox-rows.mjs): the forced cells as the released guide's own fill.sh prints them over the translation 3808673eb396a79c… (all of the seat's roots in one cut). By AI agents, Wed Nov 11 2026. No macro, syntax, notation, axiom, sorry.
-/
import Derived.Test.YtkbdnmmnnkoenaaChecked
import GoSem.Claim
import GoSem.ClaimJoined
import GoSem.ClaimMapViews
import Derived.JoinedTies
import Derived.KernelRfl
namespace Go.Proofs.Ytkbdnmmnnkoenaa
/- THE CELL 'sum', in the pinned program and in every row, IS THE sha256 OF THE DUMP (.gsa) THAT YtkbdnmmnnkoenaaProg.lean LOADS. Nothing in Lean hashes anything: it is a label: what it is worth is what the hold of that sum in a sandbox is worth. -/
noncomputable def Try.pinned : Pinned := { name := "ytkbdnmmnnkoenaa", sum := "3808673eb396a79cb5d3f2b17912c2dc33d6af771cd539bd29d9571c530aa1ee", checked := Try.checked }
namespace Rows
def none {H : Type} : Left H := { results := [], args := [] }

/-- 'laws.FnArith': WHATEVER THE INPUT: true; the input reads as it did. -/
def fnArithSpec : ChangeSpec := { name := "fnArith", fn := fun _ => fun
  | [d] => { results := [.lit (.bool true)], args := [d] }
  | _ => none }
def fnArithRow : OpenClaim := { program := "ytkbdnmmnnkoenaa", sum := "3808673eb396a79cb5d3f2b17912c2dc33d6af771cd539bd29d9571c530aa1ee", func := "loop.example/g00329/laws.FnArith", spec := "fnArith", apart := false }
def FnArithSaid : Prop := fnArithRow.holds Try.pinned (OpenSpec.ofChange fnArithSpec)

/-- ITS FALSE NEIGHBOUR: 'it returns false'. Refute it at one input. -/
def fnArithWrong : ChangeSpec := { name := "fnArith", fn := fun _ => fun
  | [d] => { results := [.lit (.bool false)], args := [d] }
  | _ => none }
def FnArithWrongFalsely : Prop := fnArithRow.holds Try.pinned (OpenSpec.ofChange fnArithWrong)

/-- 'laws.FnCalled': WHATEVER THE INPUT: true; the input reads as it did. -/
def fnCalledSpec : ChangeSpec := { name := "fnCalled", fn := fun _ => fun
  | [d] => { results := [.lit (.bool true)], args := [d] }
  | _ => none }
def fnCalledRow : OpenClaim := { program := "ytkbdnmmnnkoenaa", sum := "3808673eb396a79cb5d3f2b17912c2dc33d6af771cd539bd29d9571c530aa1ee", func := "loop.example/g00329/laws.FnCalled", spec := "fnCalled", apart := false }
def FnCalledSaid : Prop := fnCalledRow.holds Try.pinned (OpenSpec.ofChange fnCalledSpec)

/-- ITS FALSE NEIGHBOUR: 'it returns false'. Refute it at one input. -/
def fnCalledWrong : ChangeSpec := { name := "fnCalled", fn := fun _ => fun
  | [d] => { results := [.lit (.bool false)], args := [d] }
  | _ => none }
def FnCalledWrongFalsely : Prop := fnCalledRow.holds Try.pinned (OpenSpec.ofChange fnCalledWrong)

/-- 'laws.FnPushed': WHATEVER THE INPUT: true; the input reads as it did. -/
def fnPushedSpec : ChangeSpec := { name := "fnPushed", fn := fun _ => fun
  | [d] => { results := [.lit (.bool true)], args := [d] }
  | _ => none }
def fnPushedRow : OpenClaim := { program := "ytkbdnmmnnkoenaa", sum := "3808673eb396a79cb5d3f2b17912c2dc33d6af771cd539bd29d9571c530aa1ee", func := "loop.example/g00329/laws.FnPushed", spec := "fnPushed", apart := false }
def FnPushedSaid : Prop := fnPushedRow.holds Try.pinned (OpenSpec.ofChange fnPushedSpec)

/-- ITS FALSE NEIGHBOUR: 'it returns false'. Refute it at one input. -/
def fnPushedWrong : ChangeSpec := { name := "fnPushed", fn := fun _ => fun
  | [d] => { results := [.lit (.bool false)], args := [d] }
  | _ => none }
def FnPushedWrongFalsely : Prop := fnPushedRow.holds Try.pinned (OpenSpec.ofChange fnPushedWrong)

/-- 'laws.FnExactSteps': WHATEVER THE INPUT: true; the input reads as it did. -/
def fnExactStepsSpec : ChangeSpec := { name := "fnExactSteps", fn := fun _ => fun
  | [d1, d2] => { results := [.lit (.bool true)], args := [d1, d2] }
  | _ => none }
def fnExactStepsRow : OpenClaim := { program := "ytkbdnmmnnkoenaa", sum := "3808673eb396a79cb5d3f2b17912c2dc33d6af771cd539bd29d9571c530aa1ee", func := "loop.example/g00329/laws.FnExactSteps", spec := "fnExactSteps", apart := false }
def FnExactStepsSaid : Prop := fnExactStepsRow.holds Try.pinned (OpenSpec.ofChange fnExactStepsSpec)

/-- ITS FALSE NEIGHBOUR: 'it returns false'. Refute it at one input. -/
def fnExactStepsWrong : ChangeSpec := { name := "fnExactSteps", fn := fun _ => fun
  | [d1, d2] => { results := [.lit (.bool false)], args := [d1, d2] }
  | _ => none }
def FnExactStepsWrongFalsely : Prop := fnExactStepsRow.holds Try.pinned (OpenSpec.ofChange fnExactStepsWrong)

/-- 'laws.FnExactStep': WHATEVER THE INPUT: true; the input reads as it did. -/
def fnExactStepSpec : ChangeSpec := { name := "fnExactStep", fn := fun _ => fun
  | [d] => { results := [.lit (.bool true)], args := [d] }
  | _ => none }
def fnExactStepRow : OpenClaim := { program := "ytkbdnmmnnkoenaa", sum := "3808673eb396a79cb5d3f2b17912c2dc33d6af771cd539bd29d9571c530aa1ee", func := "loop.example/g00329/laws.FnExactStep", spec := "fnExactStep", apart := false }
def FnExactStepSaid : Prop := fnExactStepRow.holds Try.pinned (OpenSpec.ofChange fnExactStepSpec)

/-- ITS FALSE NEIGHBOUR: 'it returns false'. Refute it at one input. -/
def fnExactStepWrong : ChangeSpec := { name := "fnExactStep", fn := fun _ => fun
  | [d] => { results := [.lit (.bool false)], args := [d] }
  | _ => none }
def FnExactStepWrongFalsely : Prop := fnExactStepRow.holds Try.pinned (OpenSpec.ofChange fnExactStepWrong)

/-- 'laws.FnExactRun': WHATEVER THE INPUT: true; the input reads as it did. -/
def fnExactRunSpec : ChangeSpec := { name := "fnExactRun", fn := fun _ => fun
  | [d1, d2] => { results := [.lit (.bool true)], args := [d1, d2] }
  | _ => none }
def fnExactRunRow : OpenClaim := { program := "ytkbdnmmnnkoenaa", sum := "3808673eb396a79cb5d3f2b17912c2dc33d6af771cd539bd29d9571c530aa1ee", func := "loop.example/g00329/laws.FnExactRun", spec := "fnExactRun", apart := false }
def FnExactRunSaid : Prop := fnExactRunRow.holds Try.pinned (OpenSpec.ofChange fnExactRunSpec)

/-- ITS FALSE NEIGHBOUR: 'it returns false'. Refute it at one input. -/
def fnExactRunWrong : ChangeSpec := { name := "fnExactRun", fn := fun _ => fun
  | [d1, d2] => { results := [.lit (.bool false)], args := [d1, d2] }
  | _ => none }
def FnExactRunWrongFalsely : Prop := fnExactRunRow.holds Try.pinned (OpenSpec.ofChange fnExactRunWrong)

/-- 'laws.FnSteps': WHATEVER THE INPUT: true; the input reads as it did. -/
def fnStepsSpec : ChangeSpec := { name := "fnSteps", fn := fun _ => fun
  | [d] => { results := [.lit (.bool true)], args := [d] }
  | _ => none }
def fnStepsRow : OpenClaim := { program := "ytkbdnmmnnkoenaa", sum := "3808673eb396a79cb5d3f2b17912c2dc33d6af771cd539bd29d9571c530aa1ee", func := "loop.example/g00329/laws.FnSteps", spec := "fnSteps", apart := false }
def FnStepsSaid : Prop := fnStepsRow.holds Try.pinned (OpenSpec.ofChange fnStepsSpec)

/-- ITS FALSE NEIGHBOUR: 'it returns false'. Refute it at one input. -/
def fnStepsWrong : ChangeSpec := { name := "fnSteps", fn := fun _ => fun
  | [d] => { results := [.lit (.bool false)], args := [d] }
  | _ => none }
def FnStepsWrongFalsely : Prop := fnStepsRow.holds Try.pinned (OpenSpec.ofChange fnStepsWrong)

/- THE SECOND FORM. 'bulk': how many values and letters a reading holds, each counted each time it is reached (what is shared counts as often as it is met; a slice's spare places count too). A statement '..UptoSaid' is the law's where the arguments, and the package variables that the reading takes, are together of bulk at most 1048576: NARROWER than '..Said'. Prove '..Said' where nothing that the law and all that it calls make is longer than what came in: it says more and counts as full. Else prove '..UptoSaid'. A law counts once. -/
mutual
def uptoBulk {H : Type} : DataW H → Nat
  | .lit (.string bytes) => bytes.length + 1
  | .lit _ => 1
  | .nil => 1
  | .ptr d => uptoBulk d + 1
  | .slice elems spare => uptoBulkAll elems + uptoBulkAll spare + 1
  | .agg parts => uptoBulkAll parts + 1
  | .iface _ d => uptoBulk d + 1
  | .map entries => uptoBulkEntries entries + 1
  | .held _ => 1
def uptoBulkAll {H : Type} : List (DataW H) → Nat
  | [] => 0
  | d :: r => uptoBulk d + uptoBulkAll r
def uptoBulkEntries {H : Type} : List (Lit × DataW H) → Nat
  | [] => 0
  | x :: r => uptoBulkEntry x + uptoBulkEntries r
def uptoBulkEntry {H : Type} : Lit × DataW H → Nat
  | (.string bytes, d) => bytes.length + uptoBulk d + 1
  | (_, d) => uptoBulk d + 1
 end
def uptoSmall : (H : Type) → List (DataW H) → Bool := fun _ ds => decide (uptoBulkAll ds ≤ 1048576)
def OpenSpec.upto (s : _root_.Go.ChangeSpec) : _root_.Go.OpenSpec := { _root_.Go.OpenSpec.ofChange s with cond := some uptoSmall }

/-- 'laws.FnArith', WHERE WHAT IT READS IS OF BULK AT MOST 1048576: true; the input reads as it did. -/
def fnArithUptoRow : OpenClaim := { program := "ytkbdnmmnnkoenaa", sum := "3808673eb396a79cb5d3f2b17912c2dc33d6af771cd539bd29d9571c530aa1ee", func := "loop.example/g00329/laws.FnArith", spec := "fnArith", apart := false, narrowed := true }
def FnArithUptoSaid : Prop := fnArithUptoRow.holds Try.pinned (OpenSpec.upto fnArithSpec)

/-- 'laws.FnCalled', WHERE WHAT IT READS IS OF BULK AT MOST 1048576: true; the input reads as it did. -/
def fnCalledUptoRow : OpenClaim := { program := "ytkbdnmmnnkoenaa", sum := "3808673eb396a79cb5d3f2b17912c2dc33d6af771cd539bd29d9571c530aa1ee", func := "loop.example/g00329/laws.FnCalled", spec := "fnCalled", apart := false, narrowed := true }
def FnCalledUptoSaid : Prop := fnCalledUptoRow.holds Try.pinned (OpenSpec.upto fnCalledSpec)

/-- 'laws.FnPushed', WHERE WHAT IT READS IS OF BULK AT MOST 1048576: true; the input reads as it did. -/
def fnPushedUptoRow : OpenClaim := { program := "ytkbdnmmnnkoenaa", sum := "3808673eb396a79cb5d3f2b17912c2dc33d6af771cd539bd29d9571c530aa1ee", func := "loop.example/g00329/laws.FnPushed", spec := "fnPushed", apart := false, narrowed := true }
def FnPushedUptoSaid : Prop := fnPushedUptoRow.holds Try.pinned (OpenSpec.upto fnPushedSpec)

/-- 'laws.FnExactSteps', WHERE WHAT IT READS IS OF BULK AT MOST 1048576: true; the input reads as it did. -/
def fnExactStepsUptoRow : OpenClaim := { program := "ytkbdnmmnnkoenaa", sum := "3808673eb396a79cb5d3f2b17912c2dc33d6af771cd539bd29d9571c530aa1ee", func := "loop.example/g00329/laws.FnExactSteps", spec := "fnExactSteps", apart := false, narrowed := true }
def FnExactStepsUptoSaid : Prop := fnExactStepsUptoRow.holds Try.pinned (OpenSpec.upto fnExactStepsSpec)

/-- 'laws.FnExactStep', WHERE WHAT IT READS IS OF BULK AT MOST 1048576: true; the input reads as it did. -/
def fnExactStepUptoRow : OpenClaim := { program := "ytkbdnmmnnkoenaa", sum := "3808673eb396a79cb5d3f2b17912c2dc33d6af771cd539bd29d9571c530aa1ee", func := "loop.example/g00329/laws.FnExactStep", spec := "fnExactStep", apart := false, narrowed := true }
def FnExactStepUptoSaid : Prop := fnExactStepUptoRow.holds Try.pinned (OpenSpec.upto fnExactStepSpec)

/-- 'laws.FnExactRun', WHERE WHAT IT READS IS OF BULK AT MOST 1048576: true; the input reads as it did. -/
def fnExactRunUptoRow : OpenClaim := { program := "ytkbdnmmnnkoenaa", sum := "3808673eb396a79cb5d3f2b17912c2dc33d6af771cd539bd29d9571c530aa1ee", func := "loop.example/g00329/laws.FnExactRun", spec := "fnExactRun", apart := false, narrowed := true }
def FnExactRunUptoSaid : Prop := fnExactRunUptoRow.holds Try.pinned (OpenSpec.upto fnExactRunSpec)

/-- 'laws.FnSteps', WHERE WHAT IT READS IS OF BULK AT MOST 1048576: true; the input reads as it did. -/
def fnStepsUptoRow : OpenClaim := { program := "ytkbdnmmnnkoenaa", sum := "3808673eb396a79cb5d3f2b17912c2dc33d6af771cd539bd29d9571c530aa1ee", func := "loop.example/g00329/laws.FnSteps", spec := "fnSteps", apart := false, narrowed := true }
def FnStepsUptoSaid : Prop := fnStepsUptoRow.holds Try.pinned (OpenSpec.upto fnStepsSpec)

end Rows
end Go.Proofs.Ytkbdnmmnnkoenaa
