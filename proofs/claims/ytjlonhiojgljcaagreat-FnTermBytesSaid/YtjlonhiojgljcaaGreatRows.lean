/-
  NARROWER THAN 'FOR EVERY INPUT', by the rows' own cells (each row's printed sentence says how): FnExactPlaceAll: loops · FnExactGlobsOf: loops · FnExactLinkOne: loops · FnExactLibPut: loops.
  DERIVED. THE GIVEN ROWS OF THIS SEAT. 8 by the template 'for every input the law returns true; each argument reads behind the call as it read before'; 0 by the template 'total and deterministic' (their statements: YtjlonhiojgljcaaGreatTotals.lean).
  GIVEN WITH THE SEED: the statements are not yours to turn. If you find one false, say at which input.
  Laid BY PROGRAM, IN A SANDBOX (cutbox-rows.mjs): the forced cells as the released guide's own fill.sh prints them over the translation 2323034ecd57a737… (all of the seat's roots in one cut). By AI agents, Wed Nov 11 2026. No macro, syntax, notation, axiom, sorry.
-/
import Derived.Test.YtjlonhiojgljcaaGreatChecked
import GoSem.Claim
import GoSem.ClaimJoined
import GoSem.ClaimMapViews
import Derived.JoinedTies
import Derived.KernelRfl
namespace Go.Proofs.YtjlonhiojgljcaaGreat
/- THE CELL 'sum', in the pinned program and in every row, IS THE sha256 OF THE DUMP (.gsa) THAT YtjlonhiojgljcaaGreatProg.lean LOADS. Nothing in Lean hashes anything: it is a label: what it is worth is what the hold of that sum in a sandbox is worth. -/
noncomputable def Tryz.pinned : Pinned := { name := "ytjlonhiojgljcaagreat", sum := "2323034ecd57a737f9d609ae57cc1e4850de61aba4cb9510e24c28f0b38d2a75", checked := Tryz.checked }
namespace Rows
def none {H : Type} : Left H := { results := [], args := [] }

/-- 'laws.FnExactEntriesOf': WHATEVER THE INPUT: true; the input reads as it did. -/
def fnExactEntriesOfSpec : ChangeSpec := { name := "fnExactEntriesOf", fn := fun _ => fun
  | [d] => { results := [.lit (.bool true)], args := [d] }
  | _ => none }
def fnExactEntriesOfRow : OpenClaim := { program := "ytjlonhiojgljcaagreat", sum := "2323034ecd57a737f9d609ae57cc1e4850de61aba4cb9510e24c28f0b38d2a75", func := "loop.example/g00329/laws.FnExactEntriesOf", spec := "fnExactEntriesOf", unfollowed := true, recurses := true, apart := false }
def FnExactEntriesOfSaid : Prop := fnExactEntriesOfRow.holds Tryz.pinned (OpenSpec.ofChange fnExactEntriesOfSpec)

/-- ITS FALSE NEIGHBOUR: 'it returns false'. Refute it at one input. -/
def fnExactEntriesOfWrong : ChangeSpec := { name := "fnExactEntriesOf", fn := fun _ => fun
  | [d] => { results := [.lit (.bool false)], args := [d] }
  | _ => none }
def FnExactEntriesOfWrongFalsely : Prop := fnExactEntriesOfRow.holds Tryz.pinned (OpenSpec.ofChange fnExactEntriesOfWrong)

/-- 'laws.FnExactPlaceAll': WHATEVER THE INPUT: true; the input reads as it did. -/
def fnExactPlaceAllSpec : ChangeSpec := { name := "fnExactPlaceAll", fn := fun _ => fun
  | [d1, d2] => { results := [.lit (.bool true)], args := [d1, d2] }
  | _ => none }
def fnExactPlaceAllRow : OpenClaim := { program := "ytjlonhiojgljcaagreat", sum := "2323034ecd57a737f9d609ae57cc1e4850de61aba4cb9510e24c28f0b38d2a75", func := "loop.example/g00329/laws.FnExactPlaceAll", spec := "fnExactPlaceAll", unfollowed := true, recurses := true, loops := true, apart := false }
def FnExactPlaceAllSaid : Prop := fnExactPlaceAllRow.holds Tryz.pinned (OpenSpec.ofChange fnExactPlaceAllSpec)

/-- ITS FALSE NEIGHBOUR: 'it returns false'. Refute it at one input. -/
def fnExactPlaceAllWrong : ChangeSpec := { name := "fnExactPlaceAll", fn := fun _ => fun
  | [d1, d2] => { results := [.lit (.bool false)], args := [d1, d2] }
  | _ => none }
def FnExactPlaceAllWrongFalsely : Prop := fnExactPlaceAllRow.holds Tryz.pinned (OpenSpec.ofChange fnExactPlaceAllWrong)

/-- 'laws.FnExactGlobsOf': WHATEVER THE INPUT: true; the input reads as it did. -/
def fnExactGlobsOfSpec : ChangeSpec := { name := "fnExactGlobsOf", fn := fun _ => fun
  | [d1, d2] => { results := [.lit (.bool true)], args := [d1, d2] }
  | _ => none }
def fnExactGlobsOfRow : OpenClaim := { program := "ytjlonhiojgljcaagreat", sum := "2323034ecd57a737f9d609ae57cc1e4850de61aba4cb9510e24c28f0b38d2a75", func := "loop.example/g00329/laws.FnExactGlobsOf", spec := "fnExactGlobsOf", unfollowed := true, recurses := true, loops := true, apart := false }
def FnExactGlobsOfSaid : Prop := fnExactGlobsOfRow.holds Tryz.pinned (OpenSpec.ofChange fnExactGlobsOfSpec)

/-- ITS FALSE NEIGHBOUR: 'it returns false'. Refute it at one input. -/
def fnExactGlobsOfWrong : ChangeSpec := { name := "fnExactGlobsOf", fn := fun _ => fun
  | [d1, d2] => { results := [.lit (.bool false)], args := [d1, d2] }
  | _ => none }
def FnExactGlobsOfWrongFalsely : Prop := fnExactGlobsOfRow.holds Tryz.pinned (OpenSpec.ofChange fnExactGlobsOfWrong)

/-- 'laws.FnExactLinkOne': WHATEVER THE INPUT: true; the input reads as it did. -/
def fnExactLinkOneSpec : ChangeSpec := { name := "fnExactLinkOne", fn := fun _ => fun
  | [d1, d2] => { results := [.lit (.bool true)], args := [d1, d2] }
  | _ => none }
def fnExactLinkOneRow : OpenClaim := { program := "ytjlonhiojgljcaagreat", sum := "2323034ecd57a737f9d609ae57cc1e4850de61aba4cb9510e24c28f0b38d2a75", func := "loop.example/g00329/laws.FnExactLinkOne", spec := "fnExactLinkOne", unfollowed := true, recurses := true, loops := true, apart := false }
def FnExactLinkOneSaid : Prop := fnExactLinkOneRow.holds Tryz.pinned (OpenSpec.ofChange fnExactLinkOneSpec)

/-- ITS FALSE NEIGHBOUR: 'it returns false'. Refute it at one input. -/
def fnExactLinkOneWrong : ChangeSpec := { name := "fnExactLinkOne", fn := fun _ => fun
  | [d1, d2] => { results := [.lit (.bool false)], args := [d1, d2] }
  | _ => none }
def FnExactLinkOneWrongFalsely : Prop := fnExactLinkOneRow.holds Tryz.pinned (OpenSpec.ofChange fnExactLinkOneWrong)

/-- 'laws.FnExactLibDrop': WHATEVER THE INPUT: true; the input reads as it did. -/
def fnExactLibDropSpec : ChangeSpec := { name := "fnExactLibDrop", fn := fun _ => fun
  | [d1, d2] => { results := [.lit (.bool true)], args := [d1, d2] }
  | _ => none }
def fnExactLibDropRow : OpenClaim := { program := "ytjlonhiojgljcaagreat", sum := "2323034ecd57a737f9d609ae57cc1e4850de61aba4cb9510e24c28f0b38d2a75", func := "loop.example/g00329/laws.FnExactLibDrop", spec := "fnExactLibDrop", unfollowed := true, recurses := true, apart := false }
def FnExactLibDropSaid : Prop := fnExactLibDropRow.holds Tryz.pinned (OpenSpec.ofChange fnExactLibDropSpec)

/-- ITS FALSE NEIGHBOUR: 'it returns false'. Refute it at one input. -/
def fnExactLibDropWrong : ChangeSpec := { name := "fnExactLibDrop", fn := fun _ => fun
  | [d1, d2] => { results := [.lit (.bool false)], args := [d1, d2] }
  | _ => none }
def FnExactLibDropWrongFalsely : Prop := fnExactLibDropRow.holds Tryz.pinned (OpenSpec.ofChange fnExactLibDropWrong)

/-- 'laws.FnExactLibPut': WHATEVER THE INPUT: true; the input reads as it did. -/
def fnExactLibPutSpec : ChangeSpec := { name := "fnExactLibPut", fn := fun _ => fun
  | [d1, d2, d3] => { results := [.lit (.bool true)], args := [d1, d2, d3] }
  | _ => none }
def fnExactLibPutRow : OpenClaim := { program := "ytjlonhiojgljcaagreat", sum := "2323034ecd57a737f9d609ae57cc1e4850de61aba4cb9510e24c28f0b38d2a75", func := "loop.example/g00329/laws.FnExactLibPut", spec := "fnExactLibPut", inPlace := ["slices.overlaps[loop.example/g00329/impl.LibMod]"], unfollowed := true, recurses := true, loops := true, apart := false }
def FnExactLibPutSaid : Prop := fnExactLibPutRow.holds Tryz.pinned (OpenSpec.ofChange fnExactLibPutSpec)

/-- ITS FALSE NEIGHBOUR: 'it returns false'. Refute it at one input. -/
def fnExactLibPutWrong : ChangeSpec := { name := "fnExactLibPut", fn := fun _ => fun
  | [d1, d2, d3] => { results := [.lit (.bool false)], args := [d1, d2, d3] }
  | _ => none }
def FnExactLibPutWrongFalsely : Prop := fnExactLibPutRow.holds Tryz.pinned (OpenSpec.ofChange fnExactLibPutWrong)

/-- 'laws.FnTermBytes': WHATEVER THE INPUT: true; the input reads as it did. -/
def fnTermBytesSpec : ChangeSpec := { name := "fnTermBytes", fn := fun _ => fun
  | [d] => { results := [.lit (.bool true)], args := [d] }
  | _ => none }
def fnTermBytesRow : OpenClaim := { program := "ytjlonhiojgljcaagreat", sum := "2323034ecd57a737f9d609ae57cc1e4850de61aba4cb9510e24c28f0b38d2a75", func := "loop.example/g00329/laws.FnTermBytes", spec := "fnTermBytes", recurses := true, apart := false }
def FnTermBytesSaid : Prop := fnTermBytesRow.holds Tryz.pinned (OpenSpec.ofChange fnTermBytesSpec)

/-- ITS FALSE NEIGHBOUR: 'it returns false'. Refute it at one input. -/
def fnTermBytesWrong : ChangeSpec := { name := "fnTermBytes", fn := fun _ => fun
  | [d] => { results := [.lit (.bool false)], args := [d] }
  | _ => none }
def FnTermBytesWrongFalsely : Prop := fnTermBytesRow.holds Tryz.pinned (OpenSpec.ofChange fnTermBytesWrong)

/-- 'laws.FnObjs': WHATEVER THE INPUT: true; the input reads as it did. -/
def fnObjsSpec : ChangeSpec := { name := "fnObjs", fn := fun _ => fun
  | [d] => { results := [.lit (.bool true)], args := [d] }
  | _ => none }
def fnObjsRow : OpenClaim := { program := "ytjlonhiojgljcaagreat", sum := "2323034ecd57a737f9d609ae57cc1e4850de61aba4cb9510e24c28f0b38d2a75", func := "loop.example/g00329/laws.FnObjs", spec := "fnObjs", unfollowed := true, recurses := true, apart := false }
def FnObjsSaid : Prop := fnObjsRow.holds Tryz.pinned (OpenSpec.ofChange fnObjsSpec)

/-- ITS FALSE NEIGHBOUR: 'it returns false'. Refute it at one input. -/
def fnObjsWrong : ChangeSpec := { name := "fnObjs", fn := fun _ => fun
  | [d] => { results := [.lit (.bool false)], args := [d] }
  | _ => none }
def FnObjsWrongFalsely : Prop := fnObjsRow.holds Tryz.pinned (OpenSpec.ofChange fnObjsWrong)

/- THE SECOND FORM. 'bulk': how many values and letters a reading holds, each counted each time it is reached (what is shared counts as often as it is met; a slice's spare places count too). A statement '..UptoSaid' is the law's where the arguments, and the package variables that the reading takes, are together of bulk at most 1048576: NARROWER than '..Said'. Prove '..Said' where nothing that the law and all that it calls make is longer than what came in: it says more and counts as full. Else prove '..UptoSaid'. A law counts once. -/
mutual
def uptoBulk {H : Type} : DataW H → Nat
  | .lit (.string bytes) => bytes.length + 1
  | .lit _ => 1
  | .nil => 1
  | .ptr d => uptoBulk d + 1
  | .slice elems spare => uptoBulkAll elems + uptoBulkAll spare + 1
  | .agg parts => uptoBulkAll parts + 1
  | .iface _ d => uptoBulk d + 1
  | .map entries => uptoBulkEntries entries + 1
  | .held _ => 1
def uptoBulkAll {H : Type} : List (DataW H) → Nat
  | [] => 0
  | d :: r => uptoBulk d + uptoBulkAll r
def uptoBulkEntries {H : Type} : List (Lit × DataW H) → Nat
  | [] => 0
  | x :: r => uptoBulkEntry x + uptoBulkEntries r
def uptoBulkEntry {H : Type} : Lit × DataW H → Nat
  | (.string bytes, d) => bytes.length + uptoBulk d + 1
  | (_, d) => uptoBulk d + 1
 end
def uptoSmall : (H : Type) → List (DataW H) → Bool := fun _ ds => decide (uptoBulkAll ds ≤ 1048576)
def OpenSpec.upto (s : _root_.Go.ChangeSpec) : _root_.Go.OpenSpec := { _root_.Go.OpenSpec.ofChange s with cond := some uptoSmall }

/-- 'laws.FnExactEntriesOf', WHERE WHAT IT READS IS OF BULK AT MOST 1048576: true; the input reads as it did. -/
def fnExactEntriesOfUptoRow : OpenClaim := { program := "ytjlonhiojgljcaagreat", sum := "2323034ecd57a737f9d609ae57cc1e4850de61aba4cb9510e24c28f0b38d2a75", func := "loop.example/g00329/laws.FnExactEntriesOf", spec := "fnExactEntriesOf", unfollowed := true, recurses := true, apart := false, narrowed := true }
def FnExactEntriesOfUptoSaid : Prop := fnExactEntriesOfUptoRow.holds Tryz.pinned (OpenSpec.upto fnExactEntriesOfSpec)

/-- 'laws.FnExactPlaceAll', WHERE WHAT IT READS IS OF BULK AT MOST 1048576: true; the input reads as it did. -/
def fnExactPlaceAllUptoRow : OpenClaim := { program := "ytjlonhiojgljcaagreat", sum := "2323034ecd57a737f9d609ae57cc1e4850de61aba4cb9510e24c28f0b38d2a75", func := "loop.example/g00329/laws.FnExactPlaceAll", spec := "fnExactPlaceAll", unfollowed := true, recurses := true, loops := true, apart := false, narrowed := true }
def FnExactPlaceAllUptoSaid : Prop := fnExactPlaceAllUptoRow.holds Tryz.pinned (OpenSpec.upto fnExactPlaceAllSpec)

/-- 'laws.FnExactGlobsOf', WHERE WHAT IT READS IS OF BULK AT MOST 1048576: true; the input reads as it did. -/
def fnExactGlobsOfUptoRow : OpenClaim := { program := "ytjlonhiojgljcaagreat", sum := "2323034ecd57a737f9d609ae57cc1e4850de61aba4cb9510e24c28f0b38d2a75", func := "loop.example/g00329/laws.FnExactGlobsOf", spec := "fnExactGlobsOf", unfollowed := true, recurses := true, loops := true, apart := false, narrowed := true }
def FnExactGlobsOfUptoSaid : Prop := fnExactGlobsOfUptoRow.holds Tryz.pinned (OpenSpec.upto fnExactGlobsOfSpec)

/-- 'laws.FnExactLinkOne', WHERE WHAT IT READS IS OF BULK AT MOST 1048576: true; the input reads as it did. -/
def fnExactLinkOneUptoRow : OpenClaim := { program := "ytjlonhiojgljcaagreat", sum := "2323034ecd57a737f9d609ae57cc1e4850de61aba4cb9510e24c28f0b38d2a75", func := "loop.example/g00329/laws.FnExactLinkOne", spec := "fnExactLinkOne", unfollowed := true, recurses := true, loops := true, apart := false, narrowed := true }
def FnExactLinkOneUptoSaid : Prop := fnExactLinkOneUptoRow.holds Tryz.pinned (OpenSpec.upto fnExactLinkOneSpec)

/-- 'laws.FnExactLibDrop', WHERE WHAT IT READS IS OF BULK AT MOST 1048576: true; the input reads as it did. -/
def fnExactLibDropUptoRow : OpenClaim := { program := "ytjlonhiojgljcaagreat", sum := "2323034ecd57a737f9d609ae57cc1e4850de61aba4cb9510e24c28f0b38d2a75", func := "loop.example/g00329/laws.FnExactLibDrop", spec := "fnExactLibDrop", unfollowed := true, recurses := true, apart := false, narrowed := true }
def FnExactLibDropUptoSaid : Prop := fnExactLibDropUptoRow.holds Tryz.pinned (OpenSpec.upto fnExactLibDropSpec)

/-- 'laws.FnExactLibPut', WHERE WHAT IT READS IS OF BULK AT MOST 1048576: true; the input reads as it did. -/
def fnExactLibPutUptoRow : OpenClaim := { program := "ytjlonhiojgljcaagreat", sum := "2323034ecd57a737f9d609ae57cc1e4850de61aba4cb9510e24c28f0b38d2a75", func := "loop.example/g00329/laws.FnExactLibPut", spec := "fnExactLibPut", inPlace := ["slices.overlaps[loop.example/g00329/impl.LibMod]"], unfollowed := true, recurses := true, loops := true, apart := false, narrowed := true }
def FnExactLibPutUptoSaid : Prop := fnExactLibPutUptoRow.holds Tryz.pinned (OpenSpec.upto fnExactLibPutSpec)

/-- 'laws.FnTermBytes', WHERE WHAT IT READS IS OF BULK AT MOST 1048576: true; the input reads as it did. -/
def fnTermBytesUptoRow : OpenClaim := { program := "ytjlonhiojgljcaagreat", sum := "2323034ecd57a737f9d609ae57cc1e4850de61aba4cb9510e24c28f0b38d2a75", func := "loop.example/g00329/laws.FnTermBytes", spec := "fnTermBytes", recurses := true, apart := false, narrowed := true }
def FnTermBytesUptoSaid : Prop := fnTermBytesUptoRow.holds Tryz.pinned (OpenSpec.upto fnTermBytesSpec)

/-- 'laws.FnObjs', WHERE WHAT IT READS IS OF BULK AT MOST 1048576: true; the input reads as it did. -/
def fnObjsUptoRow : OpenClaim := { program := "ytjlonhiojgljcaagreat", sum := "2323034ecd57a737f9d609ae57cc1e4850de61aba4cb9510e24c28f0b38d2a75", func := "loop.example/g00329/laws.FnObjs", spec := "fnObjs", unfollowed := true, recurses := true, apart := false, narrowed := true }
def FnObjsUptoSaid : Prop := fnObjsUptoRow.holds Tryz.pinned (OpenSpec.upto fnObjsSpec)

end Rows
end Go.Proofs.YtjlonhiojgljcaaGreat
