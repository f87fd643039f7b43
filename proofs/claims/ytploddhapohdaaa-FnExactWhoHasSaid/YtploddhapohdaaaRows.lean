/-
  NARROWER THAN 'FOR EVERY INPUT', by the rows' own cells (each row's printed sentence says how): FnExactPutObj: loops.
  DERIVED. THE GIVEN ROWS OF THIS SEAT. 4 by the template 'for every input the law returns true; each argument reads behind the call as it read before'; 0 by the template 'total and deterministic' (their statements: YtploddhapohdaaaTotals.lean).
  GIVEN WITH THE SEED: the statements are not yours to turn. If you find one false, say at which input.
  Laid BY PROGRAM, IN A SANDBOX (cutbox-rows.mjs): the forced cells as the released guide's own fill.sh prints them over the translation 9caa1d5f09b107cf… (all of the seat's roots in one cut). By AI agents, Wed Nov 11 2026. No macro, syntax, notation, axiom, sorry.
-/
import Derived.Test.YtploddhapohdaaaChecked
import GoSem.Claim
import GoSem.ClaimJoined
import GoSem.ClaimMapViews
import Derived.JoinedTies
import Derived.KernelRfl
namespace Go.Proofs.Ytploddhapohdaaa
/- THE CELL 'sum', in the pinned program and in every row, IS THE sha256 OF THE DUMP (.gsa) THAT YtploddhapohdaaaProg.lean LOADS. Nothing in Lean hashes anything: it is a label: what it is worth is what the hold of that sum in a sandbox is worth. -/
noncomputable def Try.pinned : Pinned := { name := "ytploddhapohdaaa", sum := "9caa1d5f09b107cf1abbc83b446a07098c9226d11ea19ee00a3f2f92390671ea", checked := Try.checked }
namespace Rows
def none {H : Type} : Left H := { results := [], args := [] }

/-- 'laws.FnExactPutObj': WHATEVER THE INPUT: true; the input reads as it did. -/
def fnExactPutObjSpec : ChangeSpec := { name := "fnExactPutObj", fn := fun _ => fun
  | [d] => { results := [.lit (.bool true)], args := [d] }
  | _ => none }
def fnExactPutObjRow : OpenClaim := { program := "ytploddhapohdaaa", sum := "9caa1d5f09b107cf1abbc83b446a07098c9226d11ea19ee00a3f2f92390671ea", func := "loop.example/g00329/laws.FnExactPutObj", spec := "fnExactPutObj", unfollowed := true, recurses := true, loops := true, apart := false }
def FnExactPutObjSaid : Prop := fnExactPutObjRow.holds Try.pinned (OpenSpec.ofChange fnExactPutObjSpec)

/-- ITS FALSE NEIGHBOUR: 'it returns false'. Refute it at one input. -/
def fnExactPutObjWrong : ChangeSpec := { name := "fnExactPutObj", fn := fun _ => fun
  | [d] => { results := [.lit (.bool false)], args := [d] }
  | _ => none }
def FnExactPutObjWrongFalsely : Prop := fnExactPutObjRow.holds Try.pinned (OpenSpec.ofChange fnExactPutObjWrong)

/-- 'laws.FnExactGetObj': WHATEVER THE INPUT: true; the input reads as it did. -/
def fnExactGetObjSpec : ChangeSpec := { name := "fnExactGetObj", fn := fun _ => fun
  | [d] => { results := [.lit (.bool true)], args := [d] }
  | _ => none }
def fnExactGetObjRow : OpenClaim := { program := "ytploddhapohdaaa", sum := "9caa1d5f09b107cf1abbc83b446a07098c9226d11ea19ee00a3f2f92390671ea", func := "loop.example/g00329/laws.FnExactGetObj", spec := "fnExactGetObj", unfollowed := true, recurses := true, apart := false }
def FnExactGetObjSaid : Prop := fnExactGetObjRow.holds Try.pinned (OpenSpec.ofChange fnExactGetObjSpec)

/-- ITS FALSE NEIGHBOUR: 'it returns false'. Refute it at one input. -/
def fnExactGetObjWrong : ChangeSpec := { name := "fnExactGetObj", fn := fun _ => fun
  | [d] => { results := [.lit (.bool false)], args := [d] }
  | _ => none }
def FnExactGetObjWrongFalsely : Prop := fnExactGetObjRow.holds Try.pinned (OpenSpec.ofChange fnExactGetObjWrong)

/-- 'laws.FnExactLibOk': WHATEVER THE INPUT: true; the input reads as it did. -/
def fnExactLibOkSpec : ChangeSpec := { name := "fnExactLibOk", fn := fun _ => fun
  | [d] => { results := [.lit (.bool true)], args := [d] }
  | _ => none }
def fnExactLibOkRow : OpenClaim := { program := "ytploddhapohdaaa", sum := "9caa1d5f09b107cf1abbc83b446a07098c9226d11ea19ee00a3f2f92390671ea", func := "loop.example/g00329/laws.FnExactLibOk", spec := "fnExactLibOk", unfollowed := true, recurses := true, apart := false }
def FnExactLibOkSaid : Prop := fnExactLibOkRow.holds Try.pinned (OpenSpec.ofChange fnExactLibOkSpec)

/-- ITS FALSE NEIGHBOUR: 'it returns false'. Refute it at one input. -/
def fnExactLibOkWrong : ChangeSpec := { name := "fnExactLibOk", fn := fun _ => fun
  | [d] => { results := [.lit (.bool false)], args := [d] }
  | _ => none }
def FnExactLibOkWrongFalsely : Prop := fnExactLibOkRow.holds Try.pinned (OpenSpec.ofChange fnExactLibOkWrong)

/-- 'laws.FnExactWhoHas': WHATEVER THE INPUT: true; the input reads as it did. -/
def fnExactWhoHasSpec : ChangeSpec := { name := "fnExactWhoHas", fn := fun _ => fun
  | [d1, d2] => { results := [.lit (.bool true)], args := [d1, d2] }
  | _ => none }
def fnExactWhoHasRow : OpenClaim := { program := "ytploddhapohdaaa", sum := "9caa1d5f09b107cf1abbc83b446a07098c9226d11ea19ee00a3f2f92390671ea", func := "loop.example/g00329/laws.FnExactWhoHas", spec := "fnExactWhoHas", unfollowed := true, recurses := true, apart := false }
def FnExactWhoHasSaid : Prop := fnExactWhoHasRow.holds Try.pinned (OpenSpec.ofChange fnExactWhoHasSpec)

/-- ITS FALSE NEIGHBOUR: 'it returns false'. Refute it at one input. -/
def fnExactWhoHasWrong : ChangeSpec := { name := "fnExactWhoHas", fn := fun _ => fun
  | [d1, d2] => { results := [.lit (.bool false)], args := [d1, d2] }
  | _ => none }
def FnExactWhoHasWrongFalsely : Prop := fnExactWhoHasRow.holds Try.pinned (OpenSpec.ofChange fnExactWhoHasWrong)

/- THE SECOND FORM. 'bulk': how many values and letters a reading holds, each counted each time it is reached (what is shared counts as often as it is met; a slice's spare places count too). A statement '..UptoSaid' is the law's where the arguments, and the package variables that the reading takes, are together of bulk at most 1048576: NARROWER than '..Said'. Prove '..Said' where nothing that the law and all that it calls make is longer than what came in: it says more and counts as full. Else prove '..UptoSaid'. A law counts once. -/
mutual
def uptoBulk {H : Type} : DataW H → Nat
  | .lit (.string bytes) => bytes.length + 1
  | .lit _ => 1
  | .nil => 1
  | .ptr d => uptoBulk d + 1
  | .slice elems spare => uptoBulkAll elems + uptoBulkAll spare + 1
  | .agg parts => uptoBulkAll parts + 1
  | .iface _ d => uptoBulk d + 1
  | .map entries => uptoBulkEntries entries + 1
  | .held _ => 1
def uptoBulkAll {H : Type} : List (DataW H) → Nat
  | [] => 0
  | d :: r => uptoBulk d + uptoBulkAll r
def uptoBulkEntries {H : Type} : List (Lit × DataW H) → Nat
  | [] => 0
  | x :: r => uptoBulkEntry x + uptoBulkEntries r
def uptoBulkEntry {H : Type} : Lit × DataW H → Nat
  | (.string bytes, d) => bytes.length + uptoBulk d + 1
  | (_, d) => uptoBulk d + 1
 end
def uptoSmall : (H : Type) → List (DataW H) → Bool := fun _ ds => decide (uptoBulkAll ds ≤ 1048576)
def OpenSpec.upto (s : _root_.Go.ChangeSpec) : _root_.Go.OpenSpec := { _root_.Go.OpenSpec.ofChange s with cond := some uptoSmall }

/-- 'laws.FnExactPutObj', WHERE WHAT IT READS IS OF BULK AT MOST 1048576: true; the input reads as it did. -/
def fnExactPutObjUptoRow : OpenClaim := { program := "ytploddhapohdaaa", sum := "9caa1d5f09b107cf1abbc83b446a07098c9226d11ea19ee00a3f2f92390671ea", func := "loop.example/g00329/laws.FnExactPutObj", spec := "fnExactPutObj", unfollowed := true, recurses := true, loops := true, apart := false, narrowed := true }
def FnExactPutObjUptoSaid : Prop := fnExactPutObjUptoRow.holds Try.pinned (OpenSpec.upto fnExactPutObjSpec)

/-- 'laws.FnExactGetObj', WHERE WHAT IT READS IS OF BULK AT MOST 1048576: true; the input reads as it did. -/
def fnExactGetObjUptoRow : OpenClaim := { program := "ytploddhapohdaaa", sum := "9caa1d5f09b107cf1abbc83b446a07098c9226d11ea19ee00a3f2f92390671ea", func := "loop.example/g00329/laws.FnExactGetObj", spec := "fnExactGetObj", unfollowed := true, recurses := true, apart := false, narrowed := true }
def FnExactGetObjUptoSaid : Prop := fnExactGetObjUptoRow.holds Try.pinned (OpenSpec.upto fnExactGetObjSpec)

/-- 'laws.FnExactLibOk', WHERE WHAT IT READS IS OF BULK AT MOST 1048576: true; the input reads as it did. -/
def fnExactLibOkUptoRow : OpenClaim := { program := "ytploddhapohdaaa", sum := "9caa1d5f09b107cf1abbc83b446a07098c9226d11ea19ee00a3f2f92390671ea", func := "loop.example/g00329/laws.FnExactLibOk", spec := "fnExactLibOk", unfollowed := true, recurses := true, apart := false, narrowed := true }
def FnExactLibOkUptoSaid : Prop := fnExactLibOkUptoRow.holds Try.pinned (OpenSpec.upto fnExactLibOkSpec)

/-- 'laws.FnExactWhoHas', WHERE WHAT IT READS IS OF BULK AT MOST 1048576: true; the input reads as it did. -/
def fnExactWhoHasUptoRow : OpenClaim := { program := "ytploddhapohdaaa", sum := "9caa1d5f09b107cf1abbc83b446a07098c9226d11ea19ee00a3f2f92390671ea", func := "loop.example/g00329/laws.FnExactWhoHas", spec := "fnExactWhoHas", unfollowed := true, recurses := true, apart := false, narrowed := true }
def FnExactWhoHasUptoSaid : Prop := fnExactWhoHasUptoRow.holds Try.pinned (OpenSpec.upto fnExactWhoHasSpec)

end Rows
end Go.Proofs.Ytploddhapohdaaa
