/- VI: values, a private heap for each call, and what code comes to; part 1. -/
import GoSem.Core.Code
import GoSem.Dispatch
import Derived.ProofKit
import Derived.Orders
import Derived.Below
import Derived.Laws.Sem
import Derived.WalkKit
import Derived.Laws.StructEq
import Derived.Laws.MakeOwn
import Derived.Laws.Tables
import Derived.Laws.Slices
import Derived.Laws.Strings
import Derived.Laws.Strings2
import Derived.Laws.IdiomStrings
section
namespace Go.Proofs.VI
open Go
inductive AV where
 | und
 | int (k:IntKind) (n:Int)
 | bool (b:Bool)
 | tt
 | ff
 | str (s:ByteArray)
 | nilp
 | ptr (id row cell:Nat)
 | rp (row:List AV) (cell:Nat)
 | pb (row:List AV)
 | own (id:Nat)
 | sl (id off len:Nat)
 | ro (k:Nat) (rows:List (List AV))
 | ow (k:Nat) (rows:List (List AV))
 | agg (cells:List AV)
 | tup (vs:List AV)
 | fn (f:FuncId) (cap:List AV)
 | nili
 | ifc
 | nils
 deriving Inhabited
def AV.cells:AV→List AV
 | .agg cs=>cs
 | v=>[v]
structure Hole where
 row:Nat
 cell:Nat
 id:Nat
inductive Blk where
 | box (row:List AV) (holes:List Hole)
 | rows (k:Nat) (rs:List (List AV)) (holes:List Hole)
def upd {α:Type} (f:Nat→Option α) (i:Nat) (b:Option α):Nat→Option α:=fun j=>bif Nat.beq j i then b else f j
abbrev Slots:=Nat→Option AV
abbrev Heap:=Nat→Option Blk
def put (s:Slots) (d:Option Nat) (v:AV):Slots:=match d with | some d=>upd s d (some v) | none=>s
def slots (l:List (Nat×AV)):Nat→Option AV:=fun j=>match l with | []=>none | (i,v)::r=>bif Nat.beq j i then some v else slots r j
def heap (l:List (Nat×Blk)):Nat→Option Blk:=fun j=>match l with | []=>none | (i,v)::r=>bif Nat.beq j i then some v else heap r j
inductive TK where
 | int (k:IntKind) | bool | str | slice (elem:TypeId) | struct (fs:List (Nat×TypeId)) | ptr | func | other
inductive EK where
 | int | str | bool
structure TI where
 size:Nat
 bytes:Nat
 zero:List AV
 kind:TK
 eq:List EK
def force (v:AV) (K:AV→Prop):Prop:=match v with
 | .und=>K .und | .int k n=>K (.int k n) | .bool b=>K (.bool b) | .tt=>K .tt | .ff=>K .ff | .str s=>K (.str s) | .nilp=>K .nilp
 | .ptr i r c=>K (.ptr i r c) | .rp r c=>K (.rp r c) | .pb r=>K (.pb r) | .own i=>K (.own i) | .sl i o l=>K (.sl i o l)
 | .ro k r=>K (.ro k r) | .ow k r=>K (.ow k r) | .agg c=>K (.agg c) | .tup c=>K (.tup c) | .fn f c=>K (.fn f c) | .nili=>K .nili | .ifc=>K .ifc | .nils=>K .nils
def forceL (l:List AV) (K:List AV→Prop):Prop:=match l with
 | []=>K []
 | v::r=>force v fun v=>forceL r fun r=>K (v::r)
mutual
def toRo:AV→AV
 | .ow k rows=> .ro k (toRoRows rows)
 | .ro k rows=> .ro k (toRoRows rows)
 | .agg cs=> .agg (toRoL cs)
 | .tup cs=> .tup (toRoL cs)
 | .pb row=> .rp (toRoL row) 0
 | .rp row c=> .rp (toRoL row) c
 | .fn f cs=> .fn f (toRoL cs)
 | v=>v
def toRoL:List AV→List AV
 | []=>[]
 | v::r=>toRo v::toRoL r
def toRoRows:List (List AV)→List (List AV)
 | []=>[]
 | v::r=>toRoL v::toRoRows r
end
inductive CMode where
 | ro | mv | mut | frz | no
 | muts (k:Nat)
 | muta (ks:List Nat)
 deriving DecidableEq
def closeHoles (n:Nat) (take:Bool) (h:Heap) (vis:List Nat) (rs:List (List AV)) (holes:List Hole) (K:List (List AV)→Heap→List Nat→Prop):Prop:=
 match n with
 | 0=>False
 | n+1=>match holes with
  | []=>K rs h vis
  | ⟨r,c,id⟩::hs=>closeHoles n take h vis rs hs fun rs h vis=>
   match h id with
   | some (.rows k rs2 hs2)=>closeHoles n take (bif take then upd h id none else h) vis rs2 hs2 fun rs2 h vis=>
     K (rs.modify r (fun row=>row.set c (.ow k rs2))) h (bif take then vis else id::vis)
   | none=>K (rs.modify r (fun row=>row.set c .ifc)) h vis
   | _=>False
def closeC (n:Nat) (m:CMode) (h:Heap) (vis:List Nat) (v:AV) (K:AV→Heap→List Nat→Prop):Prop:=
 match v with
 | .own id=>match h id with
  | some (.rows k rs hs)=>(match m with
   | .ro=>closeHoles n false h vis rs hs fun rs h vis=>K (.ro k (toRoRows rs)) h (id::vis)
   | .frz=>closeHoles n true (upd h id none) vis rs hs fun rs h vis=>K (.ro k (toRoRows rs)) h vis
   | .mv=>closeHoles n true (upd h id none) vis rs hs fun rs h vis=>K (.ow k rs) h vis
   | .muts k'=>bif Nat.beq k k' then closeHoles n true (upd h id none) vis rs hs fun rs h vis=>K (.ow k rs) h vis else False
   | .muta _=>False
   | .no=>K .ifc h vis
   | .mut=>False)
  | _=>False
 | .sl id off len=>match h id with
  | some (.rows k rs hs)=>(match m with
   | .ro=>closeHoles n false h vis rs hs fun rs h vis=>K (.ro k (toRoRows ((rs.drop off).take len))) h (id::vis)
   | .frz=>closeHoles n true (upd h id none) vis rs hs fun rs h vis=>K (.ro k (toRoRows ((rs.drop off).take len))) h vis
   | .mv=>closeHoles n true (upd h id none) vis rs hs fun rs h vis=>K (.ow k ((rs.drop off).take len)) h vis
   | .muts _=>False
   | .muta _=>False
   | .no=>False
   | .mut=>False)
  | _=>False
 | .ptr id r c=>match h id with
  | some (.box row hs)=>(match m with
   | .ro=>closeHoles n false h vis [row] hs fun rs h vis=>(match rs with | [row]=>K (.rp (toRoL row) c) h (id::vis) | _=>False)
   | .mut=>(match c with | 0=>closeHoles n true (upd h id none) vis [row] hs fun rs h vis=>(match rs with | [row]=>K (.pb row) h vis | _=>False) | _=>False)
   | .mv=>(match c with | 0=>closeHoles n true (upd h id none) vis [row] hs fun rs h vis=>(match rs with | [row]=>K (.pb row) h vis | _=>False) | _=>False)
   | _=>False)
  | some (.rows _ rs [])=>(match m with | .ro=>∃ row,rs[r]?=some row∧K (.rp (toRoL row) c) h (id::vis) | _=>False)
  | _=>False
 | .tt=>K (.bool true) h vis
 | .ff=>K (.bool false) h vis
 | .ow _ _=>False
 | .pb _=>False
 | .agg _=>False
 | .tup _=>False
 | .fn _ _=>False
 | v=>K v h vis
def closeCs (n:Nat) (m:CMode) (h:Heap) (vis:List Nat) (l:List AV) (K:List AV→Heap→List Nat→Prop):Prop:=
 match l with
 | []=>K [] h vis
 | v::r=>closeC n m h vis v fun v h vis=>closeCs n m h vis r fun r h vis=>K (v::r) h vis
def hdN:List Nat→Nat
 | []=>0
 | k::_=>k
def tlN:List Nat→List Nat
 | []=>[]
 | _::r=>r
def hdA:List AV→AV
 | []=> .und
 | k::_=>k
def tlA:List AV→List AV
 | []=>[]
 | _::r=>r
def closeM (n:Nat) (ks:List Nat) (h:Heap) (vis:List Nat) (l:List AV) (K:List AV→Heap→List Nat→Prop):Prop:=
 match l with
 | []=>K [] h vis
 | v::r=>closeC n (.muts (hdN ks)) h vis v fun v h vis=>closeM n (tlN ks) h vis r fun r h vis=>K (v::r) h vis
termination_by structural l
def closeA (n:Nat) (m:CMode) (h:Heap) (vis:List Nat) (v:AV) (K:AV→Heap→List Nat→Prop):Prop:=
 match v with
 | .agg cs=>match m with
  | .muta ks=>closeM n ks h vis cs fun cs h vis=>K (.agg cs) h vis
  | m=>closeCs n m h vis cs fun cs h vis=>K (.agg cs) h vis
 | .fn f cs=>closeCs n .ro h vis cs fun cs h vis=>K (.fn f cs) h vis
 | v=>closeC n m h vis v K
def closeAs (n:Nat) (m:CMode) (h:Heap) (vis:List Nat) (l:List AV) (K:List AV→Heap→List Nat→Prop):Prop:=
 match l with
 | []=>K [] h vis
 | v::r=>closeA n m h vis v fun v h vis=>closeAs n m h vis r fun r h vis=>K (v::r) h vis
def closeV (n:Nat) (m:CMode) (h:Heap) (vis:List Nat) (v:AV) (K:AV→Heap→List Nat→Prop):Prop:=
 match v with
 | .tup cs=>closeAs n m h vis cs fun cs h vis=>K (.tup cs) h vis
 | v=>closeA n m h vis v K
mutual
inductive Sim:AV→AV→Prop
 | refl (v:AV):Sim v v
 | nil (k:Nat):Sim .nils (.ow k [])
 | nilr (k:Nat):Sim .nils (.ro k [])
 | nilo (k k':Nat):Sim (.ro k []) (.ro k' [])
 | frz (v:AV):Sim v (toRo v)
 | anyr (k:Nat) (rows:List (List AV)):Sim (.ro k rows) .ifc
 | anyn:Sim .nils .ifc
 | tt:Sim .tt (.bool true)
 | ff:Sim .ff (.bool false)
 | ow {k:Nat} {rs rs':List (List AV)}:SimRows rs rs'→Sim (.ow k rs) (.ow k rs')
 | agg {l l':List AV}:SimL l l'→Sim (.agg l) (.agg l')
 | tup {l l':List AV}:SimL l l'→Sim (.tup l) (.tup l')
 | pb {l l':List AV}:SimL l l'→Sim (.pb l) (.pb l')
 | trans {a b c:AV}:Sim a b→Sim b c→Sim a c
inductive SimL:List AV→List AV→Prop
 | refl (l:List AV):SimL l l
 | cons {a b:AV} {l m:List AV}:Sim a b→SimL l m→SimL (a::l) (b::m)
inductive SimRows:List (List AV)→List (List AV)→Prop
 | refl (l:List (List AV)):SimRows l l
 | cons {a b:List AV} {l m:List (List AV)}:SimL a b→SimRows l m→SimRows (a::l) (b::m)
end
theorem SimRows.of_eq {a b:List (List AV)} (h:a=b):SimRows a b:=h▸SimRows.refl a
theorem SimRows.append {a b c d:List (List AV)} (h:SimRows a b) (k:SimRows c d):SimRows (a++c) (b++d):=by
 cases h with
 | refl l=>induction a with
  | nil=>exact k
  | cons x l ih=>exact .cons (.refl _) ih
 | @cons x y l m h1 h2=>exact .cons h1 (SimRows.append h2 k)
termination_by a.length
mutual
def noRo:AV→Prop
 | .ro _ rows=>rows=[]
 | .rp _ _=>False
 | .fn _ _=>False
 | .ow _ rows=>noRoRows rows
 | .agg cs=>noRoL cs
 | .tup cs=>noRoL cs
 | .pb row=>noRoL row
 | _=>True
def noRoL:List AV→Prop
 | []=>True
 | v::r=>noRo v∧noRoL r
def noRoRows:List (List AV)→Prop
 | []=>True
 | v::r=>noRoL v∧noRoRows r
end
def noOw (rs:List (List AV)):Prop:=∀ row∈rs,∀ v∈row,(match v with | .ow _ _=>False | .pb _=>False | .agg _=>False | _=>True)
def noRoO:List (Option AV)→Prop
 | []=>True
 | some v::r=>noRo v∧noRoO r
 | none::r=>noRoO r
def openC (n:Nat) (h:Heap) (v:AV) (K:Nat→AV→Heap→Prop):Prop:=
 match v with
 | .ow k rs=>K (n+1) (.own n) (upd h n (some (.rows k rs [])))
 | .pb row=>forceL row fun row=>K (n+1) (.ptr n 0 0) (upd h n (some (.box row [])))
 | .agg _=>False
 | .tup _=>False
 | v=>force v fun v=>K n v h
def openCs (n:Nat) (h:Heap) (l:List AV) (K:Nat→List AV→Heap→Prop):Prop:=
 match l with
 | []=>K n [] h
 | v::r=>openC n h v fun n v h=>openCs n h r fun n r h=>K n (v::r) h
def openA (n:Nat) (h:Heap) (v:AV) (K:Nat→AV→Heap→Prop):Prop:=
 match v with
 | .agg cs=>openCs n h cs fun n cs h=>K n (.agg cs) h
 | v=>openC n h v K
def openAs (n:Nat) (h:Heap) (l:List AV) (K:Nat→List AV→Heap→Prop):Prop:=
 match l with
 | []=>K n [] h
 | v::r=>openA n h v fun n v h=>openAs n h r fun n r h=>K n (v::r) h
def openV (n:Nat) (h:Heap) (v:AV) (K:Nat→AV→Heap→Prop):Prop:=
 match v with
 | .tup cs=>openAs n h cs fun n cs h=>K n (.tup cs) h
 | v=>openA n h v K
def backC (h:Heap) (v o:AV) (K:Heap→Prop):Prop:=
 match v with
 | .own _=>False
 | .ptr id _ _=>(match o with | .pb row=>forceL row fun row=>K (upd h id (some (.box row []))) | _=>False)
 | .agg _=>False
 | .tup _=>False
 | _=>K h
def backV (h:Heap) (v o:AV) (K:Heap→Prop):Prop:=backC h v o K
def backS (k:Nat) (h:Heap) (v o:AV) (K:Heap→Prop):Prop:=
 match v with
 | .own id=>(match o with | .ow k2 rows=>bif Nat.beq k k2 then K (upd h id (some (.rows k rows []))) else False | _=>False)
 | _=>False
def cst1:Value→Option AV
 | .int k n=>some (.int k n)
 | .bool true=>some .tt
 | .bool false=>some .ff
 | .string s=>some (.str s)
 | .slice none 0 0=>some .nils
 | .pointer none=>some .nilp
 | _=>none
def cstL:List Value→Option (List AV)
 | []=>some []
 | v::r=>match cst1 v,cstL r with | some a,some l=>some (a::l) | _,_=>none
def cst:Value→Option AV
 | .agg cs=>match cstL cs.toList with | some l=>some (.agg l) | none=>none
 | v=>cst1 v
def opv (s:Slots) (x:Operand) (K:AV→Prop):Prop:=
 match x with
 | .tmp t=>match s t with | some v=>K v | none=>False
 | .const v=>match cst v with | some a=>K a | none=>False
 | .func f=>K (.fn f [])
 | .global _=>False
def opvs (s:Slots) (l:List Operand) (K:List AV→Prop):Prop:=
 match l with
 | []=>K []
 | x::r=>opv s x fun v=>opvs s r fun vs=>K (v::vs)
def opvO (s:Slots) (x:Option Operand) (K:Option AV→Prop):Prop:=match x with | none=>K none | some x=>opv s x fun v=>K (some v)
def opvP (s:Slots) (l:List (Nat×Operand)) (K:List (Nat×AV)→Prop):Prop:=
 match l with
 | []=>K []
 | (i,x)::r=>opv s x fun v=>opvP s r fun vs=>K ((i,v)::vs)
def br (b:AV) (T F:Prop):Prop:=
 match b with
 | .tt=>T
 | .ff=>F
 | .bool b=>(b=true→T)∧(b=false→F)
 | _=>False
def takeN (row:List AV) (c n:Nat) (K:List AV→Prop):Prop:=
 match c with
 | c+1=>match row with | _::r=>takeN r c n K | []=>False
 | 0=>match n with
  | 0=>K []
  | n+1=>match row with | v::r=>force v fun v=>takeN r 0 n fun l=>K (v::l) | []=>False
def isStruct (t:TI):Bool:=match t.kind with | .struct _=>true | _=>false
def ofCells (t:TI) (cs:List AV) (K:AV→Prop):Prop:=bif isStruct t then K (.agg cs) else match cs with | [v]=>K v | _=>False
def holeAt (hs:List Hole) (box:Bool) (r c:Nat) (some_:Nat→Prop) (none_:Prop):Prop:=
 match hs with
 | []=>none_
 | ⟨r',c',id⟩::hs=>bif Nat.beq c' c then (bif box then some_ id else ∃ b:Bool,(bif b then r'=r else r'≠r)∧(match b with | true=>some_ id | false=>holeAt hs box r c some_ none_)) else holeAt hs box r c some_ none_
def openCells (n:Nat) (h:Heap) (box:Bool) (r c:Nat) (cs:List AV) (hs:List Hole) (K:Nat→List AV→List Hole→Heap→Prop):Prop:=
 match cs with
 | []=>K n [] hs h
 | v::rest=>holeAt hs box r c
   (fun id=>openCells n h box r (c+1) rest hs fun n l hs h=>K n (.own id::l) hs h)
   (match v with
    | .ow k rs=>openCells (n+1) (upd h n (some (.rows k rs []))) box r (c+1) rest (⟨r,c,n⟩::hs) fun n' l hs h=>K n' (.own n::l) hs h
    | .pb _=>False
    | .agg _=>False
    | .tup _=>False
    | v=>openCells n h box r (c+1) rest hs fun n l hs h=>K n (v::l) hs h)
def load (n:Nat) (t:TI) (a:AV) (h:Heap) (K:Bool→Nat→AV→Heap→Prop):Prop:=
 match a with
 | .rp row c=>takeN row c t.size fun cs=>ofCells t cs fun v=>K false n v h
 | .ptr id r c=>match h id with
  | some (.box row hs)=>takeN row c t.size fun cs=>openCells n h true 0 c cs hs fun n cs hs' h=>ofCells t cs fun v=>K (!Nat.beq hs'.length hs.length) n v (bif Nat.beq hs'.length hs.length then h else upd h id (some (.box row hs')))
  | some (.rows k rs hs)=>∃ row,rs[r]?=some row∧takeN row c t.size fun cs=>openCells n h false r c cs hs fun n cs hs' h=>ofCells t cs fun v=>K (!Nat.beq hs'.length hs.length) n v (bif Nat.beq hs'.length hs.length then h else upd h id (some (.rows k rs hs')))
  | _=>False
 | _=>False
def holesOf (r c:Nat) (cs:List AV) (K:List AV→List Hole→Prop):Prop:=
 match cs with
 | []=>K [] []
 | v::rest=>match v with
  | .own id=>holesOf r (c+1) rest fun l hs=>K (.nilp::l) (⟨r,c,id⟩::hs)
  | .fn f cap=>(match cap with | []=>holesOf r (c+1) rest fun l hs=>K (.fn f []::l) hs | _=>False)
  | .und=>False
  | .sl _ _ _=>False
  | .ptr _ _ _=>False
  | .pb _=>False
  | .ow _ _=>False
  | .agg _=>False
  | .tup _=>False
  | v=>holesOf r (c+1) rest fun l hs=>K (v::l) hs
def setCells (row:List AV) (c:Nat) (cs:List AV) (K:List AV→Prop):Prop:=
 match c with
 | c+1=>match row with | v::r=>setCells r c cs fun l=>K (v::l) | []=>False
 | 0=>match cs with
  | []=>K row
  | v::vs=>match row with | _::r=>setCells r 0 vs fun l=>K (v::l) | []=>False
def keepHoles (hs:List Hole) (box:Bool) (r c n:Nat) (K:List Hole→Prop):Prop:=
 match hs with
 | []=>K []
 | ⟨r',c',id⟩::hs=>bif Nat.ble c c'&&Nat.blt c' (c+n) then
   (bif box then keepHoles hs box r c n K else ∃ b:Bool,(bif b then r'=r else r'≠r)∧(match b with | true=>keepHoles hs box r c n K | false=>keepHoles hs box r c n fun l=>K (⟨r',c',id⟩::l)))
  else keepHoles hs box r c n fun l=>K (⟨r',c',id⟩::l)
def store (n:Nat) (t:TI) (a v:AV) (h:Heap) (K:Nat→Heap→Prop):Prop:=
 match a with
 | .ptr id r c=>
  bif Nat.beq v.cells.length t.size then
   match h id with
   | some (.box row hs)=>keepHoles hs true 0 c t.size fun hs=>holesOf 0 c v.cells fun cs hs2=>
     setCells row c cs fun row=>K n (upd h id (some (.box row (hs2++hs))))
   | some (.rows k rs hs)=>∃ row,rs[r]?=some row∧keepHoles hs false r c t.size fun hs=>holesOf r c v.cells fun cs hs2=>
     setCells row c cs fun row=>K n (upd h id (some (.rows k (rs.set r row) (hs2++hs))))
   | _=>False
  else False
 | _=>False
def storeV (n:Nat) (t:TI) (a v:AV) (h:Heap) (K:Nat→Heap→Prop):Prop:=
 match v with
 | .sl id off len=>(match h id with
  | some (.rows k rs [])=>(∀ r∈(rs.drop off).take len,∃ q z,r=[.int q z])∧store (n+1) t a (.own n) (upd (upd h id none) n (some (.rows k ((rs.drop off).take len) []))) K
  | _=>False)
 | v=>store n t a v h K
def plainV (v:AV):Bool:=match v with | .und=>false | .tup _=>false | _=>true
def partsCells (tt:TypeId→Option TI) (fs:List (Nat×TypeId)) (cells:List AV) (parts:List (Nat×AV)) (K:List AV→Prop):Prop:=
 match parts with
 | []=>K cells
 | (i,v)::r=>match fs[i]? with
  | some (off,t)=>match tt t with
   | some ti=>bif plainV v&&Nat.beq v.cells.length ti.size then setCells cells off v.cells fun cells=>partsCells tt fs cells r K else False
   | none=>False
  | none=>False
def setAt (l:List (List AV)) (i:Nat) (x:List AV) (K:List (List AV)→Prop):Prop:=
 match i with
 | 0=>match l with | _::r=>K (x::r) | []=>False
 | i+1=>match l with | v::r=>setAt r i x fun l=>K (v::l) | []=>False
def rowsOfParts (size:Nat) (rows:List (List AV)) (parts:List (Nat×AV)) (K:List (List AV)→Prop):Prop:=
 match parts with
 | []=>K rows
 | (i,v)::r=>bif plainV v&&Nat.beq v.cells.length size then setAt rows i v.cells fun rows=>rowsOfParts size rows r K else False
def repl (n:Nat) (x:List AV) (K:List (List AV)→Prop):Prop:=match n with | 0=>K [] | n+1=>repl n x fun l=>K (x::l)
def holesOfRows (r:Nat) (rows:List (List AV)) (K:List (List AV)→List Hole→Prop):Prop:=
 match rows with
 | []=>K [] []
 | row::rest=>holesOf r 0 row fun row hs=>holesOfRows (r+1) rest fun rows hs2=>K (row::rows) (hs++hs2)
def byteAt (s:ByteArray) (i:Int):Int:=((s.data.toList.getD i.toNat 0).toNat:Int)
def strRows (s:ByteArray):List (List AV):=s.data.toList.map fun b=>[.int .u8 b.toNat]
def u8Of:List AV→UInt8
 | [.int _ n]=>n.toNat.toUInt8
 | _=>0
def rowsStr (rs:List (List AV)):ByteArray:=⟨(rs.map u8Of).toArray⟩
def isBytes (rs:List (List AV)):Prop:=∀ r∈rs,∃ n:Int,r=[.int .u8 n]∧0≤n∧n < 256
def cmpInt (op:BinOp) (a b:Int):Option Bool:=match op with
 | .eql=>some (decide (a=b)) | .neq=>some (decide (a≠b)) | .lss=>some (decide (a < b)) | .leq=>some (decide (a≤b)) | .gtr=>some (decide (b < a)) | .geq=>some (decide (b≤a)) | _=>none
def bitsI (op:BinOp) (k:IntKind) (x y:Int):Int:=k.wrap (match op with
 | .and=>(BitVec.ofInt k.bits x&&& BitVec.ofInt k.bits y).toNat
 | .or=>(BitVec.ofInt k.bits x||| BitVec.ofInt k.bits y).toNat
 | .xor=>(BitVec.ofInt k.bits x ^^^ BitVec.ofInt k.bits y).toNat
 | _=>(BitVec.ofInt k.bits x&&& ~~~ BitVec.ofInt k.bits y).toNat)
def shlI (k:IntKind) (x y:Int):Int:=k.wrap (x*2 ^ min y.toNat k.bits)
def shrI (k:IntKind) (x y:Int):Int:=x.fdiv (2 ^ min y.toNat k.bits)
def binInt (op:BinOp) (k:IntKind) (a b:Int) (K:AV→Prop):Prop:=
 match op with
 | .add=>K (.int k (k.wrap (a+b)))
 | .sub=>K (.int k (k.wrap (a - b)))
 | .mul=>K (.int k (k.wrap (a*b)))
 | .quo=>b≠0∧K (.int k (k.wrap (a.tdiv b)))
 | .rem=>b≠0∧K (.int k (a.tmod b))
 | .and=>K (.int k (bitsI .and k a b))
 | .or=>K (.int k (bitsI .or k a b))
 | .xor=>K (.int k (bitsI .xor k a b))
 | .andNot=>K (.int k (bitsI .andNot k a b))
 | op=>match cmpInt op a b with | some r=>K (.bool r) | none=>False
def bval:AV→Option Bool
 | .tt=>some true
 | .ff=>some false
 | .bool b=>some b
 | _=>none
def sameC (e:EK) (x y:AV):Option Bool:=
 match e with
 | .int=>(match x,y with
  | .int k a,.int k' b=>(match decide (k=k') with | true=>some (decide (a=b)) | false=>none)
  | _,_=>none)
 | .str=>(match x,y with
  | .str a,.str b=>some (decide (a=b))
  | _,_=>none)
 | .bool=>(match bval x,bval y with
  | some a,some b=>some (a == b)
  | _,_=>none)
def sameCells (es:List EK) (x y:List AV):Option Bool:=
 match es with
 | []=>(match x,y with | [],[]=>some true | _,_=>none)
 | e::es=>(match x,y with
  | a::r,b::q=>(match sameC e a b,sameCells es r q with
   | some c,some d=>some (c&&d)
   | _,_=>none)
  | _,_=>none)
def neg:AV→(AV→Prop)→Prop
 | .tt,K=>K .ff
 | .ff,K=>K .tt
 | .bool b,K=>K (.bool !b)
 | _,_=>False
def binStr (op:BinOp) (a b:ByteArray) (K:AV→Prop):Prop:=
 match op with
 | .add=>a.size+b.size≤9223372036854775807∧K (.str (a++b))
 | .eql=>K (.bool (decide (a=b)))
 | .neq=>K (.bool (decide (a≠b)))
 | .lss=>K (.bool (Op.bytesLess a.toList b.toList))
 | .geq=>K (.bool (!Op.bytesLess a.toList b.toList))
 | .leq=>K (.bool (Op.bytesLess a.toList b.toList||decide (a=b)))
 | .gtr=>K (.bool (!(Op.bytesLess a.toList b.toList||decide (a=b))))
 | _=>False
def binV (i:TI) (op:BinOp) (x y:AV) (K:AV→Prop):Prop:=
 match x,y with
 | .int k a,.int k' b=>(match op with
  | .shl=>0≤b∧K (.int k (shlI k a b))
  | .shr=>0≤b∧K (.int k (shrI k a b))
  | op=>(match decide (k=k') with | true=>binInt op k a b K | false=>False))
 | .str a,.str b=>binStr op a b K
 | .agg a,.agg b=>(match i.eq with
  | []=>False
  | e::es=>(match sameCells (e::es) a b with
   | some r=>(match op with | .eql=>K (.bool r) | .neq=>K (.bool !r) | _=>False)
   | none=>False))
 | x,y=>(match i.kind with
  | .bool=>(match bval x,bval y with
   | some a,some b=>(match op with | .eql=>K (.bool (a == b)) | .neq=>K (.bool (a != b)) | _=>False)
   | _,_=>False)
  | _=>False)
def minMax (mx:Bool) (v:AV) (vs:List AV) (K:AV→Prop):Prop:=
 match vs with
 | []=>K v
 | .int _ b::r=>match v with | .int k a=>minMax mx (.int k (bif mx then (if b>a then b else a) else (if b < a then b else a))) r K | _=>False
 | _=>False
section
variable (C:FuncId→List AV→AV→List (Option AV)→Prop) (tt:TypeId→Option TI)
def ty (t:TypeId) (K:TI→Prop):Prop:=match tt t with | some i=>K i | none=>False
def elemTI (t:TypeId) (K:TI→Prop):Prop:=match tt t with | some ⟨_,_,_,.slice e,_⟩=>ty tt e K | _=>False
def backM (ks:List Nat) (h:Heap) (vs os:List AV) (K:Heap→Prop):Prop:=
 match vs with
 | []=>K h
 | v::vs=>match v with
  | .own id=>backS (hdN ks) h (.own id) (hdA os) fun h=>backM (tlN ks) h vs (tlA os) K
  | _=>backM (tlN ks) h vs (tlA os) K
termination_by structural vs
def backs (h:Heap) (vs:List AV) (ms:List CMode) (outs:List (Option AV)) (K:Heap→Prop):Prop:=
 match vs,ms,outs with
 | [],_,_=>K h
 | v::vs,.mut::ms,o::outs=>match o with | some o=>backV h v o fun h=>backs h vs ms outs K | none=>False
 | v::vs,.muts k::ms,o::outs=>match o with | some o=>backS k h v o fun h=>backs h vs ms outs K | none=>False
 | v::vs,.muta ks::ms,o::outs=>match o with | some (.agg os)=>(match v with | .agg cs=>backM ks h cs os fun h=>backs h vs ms outs K | _=>False) | _=>False
 | _::vs,_::ms,_::outs=>backs h vs ms outs K
 | _,_,_=>False
def closes (fuel:Nat) (h:Heap) (vis:List Nat) (vs:List AV) (ms:List CMode) (K:List AV→Heap→List Nat→Prop):Prop:=
 match vs,ms with
 | [],_=>K [] h vis
 | v::vs,m::ms=>closeV fuel m h vis v fun v h vis=>closes fuel h vis vs ms fun vs h vis=>K (v::vs) h vis
 | _,_=>False
def alive (h:Heap):List Nat→Bool
 | []=>true
 | i::r=>match h i with | some _=>alive h r | none=>false
def norm:AV→AV
 | .tt=> .bool true
 | .ff=> .bool false
 | v=>v
def isRo (m:CMode):Bool:=match m with | .ro=>true | _=>false
def call (n:Nat) (f:FuncId) (vs:List AV) (h:Heap) (K:Bool→Nat→AV→Heap→Prop):Prop:=
 ∃ (ms:List CMode) (res:AV) (outs:List (Option AV)),closes 40 h [] vs ms fun args h vis=>C f args (norm res) outs∧
  (match vis with | []=>True | _::_=>noRo res∧noRoO outs)∧
  (match alive h vis with
   | true=>backs h vs ms outs fun h=>openV n h res fun n v h=>K (!ms.all isRo) n v h
   | false=>False)
def plainC (v:AV):Prop:=match v with | .und=>False | .agg _=>False | .tup _=>False | _=>True
def plainRow:List AV→Prop
 | []=>True
 | v::r=>plainC v∧plainRow r
def plainRows:List (List AV)→Prop
 | []=>True
 | v::r=>plainRow v∧plainRows r
def holesLt (len:Nat):List Hole→Prop
 | []=>True
 | x::r=>x.row < len∧holesLt len r
def shift (b:Nat) (l:List Hole):List Hole:=match l with
 | []=>[]
 | x::r=>⟨b+x.row,x.cell,x.id⟩::shift b r
def catH (a b:List Hole):List Hole:=match a with
 | []=>b
 | x::r=>x::catH r b
def appendTo (n:Nat) (t:TI) (base:List (List AV)) (hs:List Hole) (h:Heap) (x:AV) (K:Nat→AV→Heap→Prop):Prop:=
 match x with
 | .nils=>base.length*t.bytes≤140737488355328∧K (n+1) (.own n) (upd h n (some (.rows t.size base hs)))
 | .ro k rows=>(bif Nat.beq k t.size then (base.length+rows.length)*t.bytes≤140737488355328∧plainRows rows∧K (n+1) (.own n) (upd h n (some (.rows t.size (base++rows) hs))) else False)
 | .str s=>(bif Nat.beq t.size 1 then (base.length+s.size)*t.bytes≤140737488355328∧K (n+1) (.own n) (upd h n (some (.rows 1 (base++strRows s) hs))) else False)
 | .own id=>(match h id with
  | some (.rows k rows hs2)=>(bif Nat.beq k t.size then (base.length+rows.length)*t.bytes≤140737488355328∧plainRows rows∧K (n+1) (.own n) (upd (upd h id none) n (some (.rows t.size (base++rows) (catH (shift base.length hs2) hs)))) else False)
  | _=>False)
 | .sl id off len=>(match h id with
  | some (.rows k rows [])=>(bif Nat.beq k t.size then (base.length+len)*t.bytes≤140737488355328∧plainRows ((rows.drop off).take len)∧noOw ((rows.drop off).take len)∧K (n+1) (.own n) (upd h n (some (.rows t.size (base++(rows.drop off).take len) hs))) else False)
  | _=>False)
 | _=>False
def append (n:Nat) (t:TI) (x y:AV) (h:Heap) (K:Nat→AV→Heap→Prop):Prop:=
 match x with
 | .nils=>appendTo n t [] [] h y K
 | .own id=>(match h id with
  | some (.rows k rs hs)=>(bif Nat.beq k t.size then holesLt rs.length hs∧appendTo n t rs hs (upd h id none) y K else False)
  | _=>False)
 | .sl id off len=>(match h id with
  | some (.rows k rs [])=>(bif Nat.beq k t.size then appendTo n t ((rs.drop off).take len) [] (upd h id none) y K else False)
  | _=>False)
 | _=>False
def lenV (i:TI) (x:AV) (h:Heap) (K:AV→Prop):Prop:=
 match i.kind with
 | .str=>(match x with | .str s=>K (.int .i64 s.size) | _=>False)
 | .slice _=>(match x with
  | .nils=>K (.int .i64 0)
  | .ro _ rows=>K (.int .i64 rows.length)
  | .own id=>(match h id with | some (.rows _ rs _)=>K (.int .i64 rs.length) | _=>False)
  | .sl id _ len=>(match h id with | some (.rows _ _ _)=>K (.int .i64 len) | _=>False)
  | _=>False)
 | _=>False
def copyV (x y:AV) (h:Heap) (K:AV→Heap→Prop):Prop:=match x with
 | .sl id off len=>(match h id with
  | some (.rows k rs [])=>(match y with
   | .ro k' ys=>(bif Nat.beq k 1&&Nat.beq k' 1 then (∀ r∈ys,∃ q z,r=[.int q z])∧ys.length≤len∧K (.int .i64 ys.length) (upd h id (some (.rows 1 (rs.take off++(ys++rs.drop (off+ys.length))) []))) else False)
   | _=>False)
  | _=>False)
 | _=>False
def clearV (z:List AV) (x:AV) (h:Heap) (K:AV→Heap→Prop):Prop:=match x with
 | .sl id off len=>(match h id with
  | some (.rows k rs [])=>(match z with
   | [.str s]=>(bif Nat.beq k 1 then K (.tup []) (upd h id (some (.rows 1 (rs.take off++(List.replicate len [.str s]++rs.drop (off+len))) []))) else False)
   | _=>False)
  | _=>False)
 | _=>False
def bounds (lo hi:Option AV) (len:Nat) (K:Nat→Nat→Prop):Prop:=
 match lo with
 | none=>(match hi with
  | some (.int _ u)=>0≤u∧u≤len∧K 0 u.toNat
  | none=>K 0 len
  | _=>False)
 | some (.int _ l)=>(match hi with
  | some (.int _ u)=>0≤l∧l≤u∧u≤len∧K l.toNat u.toNat
  | none=>0≤l∧l≤len∧K l.toNat len
  | _=>False)
 | _=>False
def sliceV (i:TI) (x:AV) (lo hi:Option AV) (h:Heap) (K:AV→Prop):Prop:=
 match i.kind with
 | .str=>(match x with | .str s=>bounds lo hi s.size fun l u=>K (.str (s.extract l u)) | _=>False)
 | .slice e=>ty tt e fun e=>(match x with
  | .nils=>bounds lo hi 0 fun _ _=>K .nils
  | .ro k rs=>bif Nat.beq k e.size then bounds lo hi rs.length fun l u=>K (.ro k ((rs.drop l).take (u - l))) else False
  | .own id=>(match h id with | some (.rows k rs _)=>bif Nat.beq k e.size then bounds lo hi rs.length fun l u=>K (.sl id l (u - l)) else False | _=>False)
  | .sl id off len=>(match h id with | some (.rows k _ _)=>bif Nat.beq k e.size then bounds lo hi len fun l u=>K (.sl id (off+l) (u - l)) else False | _=>False)
  | _=>False)
 | _=>False
def opvT (n:Nat) (s:Slots) (t:TypeId) (x:Operand) (h:Heap) (K:Bool→Nat→AV→Heap→Prop):Prop:=
 match x with
 | .const (.slice none 0 0)=>elemTI tt t fun e=>K false (n+1) (.own n) (upd h n (some (.rows e.size [] [])))
 | x=>opv s x fun v=>K false n v h
def aop (n:Nat) (o:Oper) (s:Slots) (h:Heap) (K:Bool→Nat→AV→Heap→Prop):Prop:=
 match o.op with
 | .move x=>opvT tt n s o.type x h K
 | .assign x=>opvT tt n s o.type x h K
 | .pick c a b=>opv s c fun v=>br v (opv s a fun v=>K false n v h) (opv s b fun v=>K false n v h)
 | .alloc t=>ty tt t fun i=>K false (n+1) (.ptr n 0 0) (upd h n (some (.box i.zero [])))
 | .box t x=>ty tt t fun i=>opv s x fun v=>bif Nat.beq v.cells.length i.size then holesOf 0 0 v.cells fun cs hs=>K false (n+1) (.ptr n 0 0) (upd h n (some (.box cs hs))) else False
 | .build t parts=>ty tt t fun i=>match i.kind with
  | .struct fs=>opvP s parts.toList fun ps=>partsCells tt fs i.zero ps fun cs=>K false n (.agg cs) h
  | _=>False
 | .buildSlice t len parts=>elemTI tt t fun i=>opvP s parts.toList fun ps=>bif Nat.ble (len*i.size) 16777216 then repl len i.zero fun rows=>rowsOfParts i.size rows ps fun rows=>holesOfRows 0 rows fun rows hs=>
   K false (n+1) (.own n) (upd h n (some (.rows i.size rows hs))) else False
 | .load t a=>ty tt t fun i=>opv s a fun a=>load n i a h K
 | .store t a x=>ty tt t fun i=>opv s a fun a=>opv s x fun v=>storeV n i a v h fun n h=>K true n .und h
 | .nilCheck x=>opv s x fun v=>match v with | .ptr i r c=>(match h i with | some _=>K false n (.ptr i r c) h | none=>False) | .rp r c=>K false n (.rp r c) h | .fn f c=>K false n (.fn f c) h | _=>False
 | .binOp op t x y _=>ty tt t fun i=>opv s x fun a=>opv s y fun b=>binV i op a b fun v=>K false n v h
 | .unOp op _ x=>opv s x fun v=>match op with
  | .not=>neg v fun v=>K false n v h
  | .neg=>(match v with | .int k a=>K false n (.int k (k.wrap (-a))) h | _=>False)
  | _=>False
 | .convert a b x=>ty tt a fun ta=>ty tt b fun tb=>opv s x fun v=>match ta.kind with
  | .int _=>(match tb.kind with | .int k=>(match v with | .int _ m=>K false n (.int k (k.wrap m)) h | _=>False) | _=>False)
  | .str=>(match tb.kind with
   | .str=>(match v with | .str s=>K false n (.str s) h | _=>False)
   | .slice e=>ty tt e fun te=>(match te.kind with
    | .int .u8=>(match v with | .str s=>K false (n+1) (.own n) (upd h n (some (.rows 1 (strRows s) []))) | _=>False)
    | _=>False)
   | _=>False)
  | .slice e=>ty tt e fun te=>(match te.kind with
   | .int .u8=>(match tb.kind with
    | .str=>(match v with
     | .ro k rs=>k=1∧isBytes rs∧K false n (.str (rowsStr rs)) h
     | .own id=>(match h id with | some (.rows k rs [])=>k=1∧isBytes rs∧K false n (.str (rowsStr rs)) h | _=>False)
     | .sl id off len=>(match h id with | some (.rows k rs [])=>k=1∧isBytes ((rs.drop off).take len)∧K false n (.str (rowsStr ((rs.drop off).take len))) h | _=>False)
     | _=>False)
    | _=>False)
   | _=>False)
  | _=>False
 | .makeFunc (.func f) first captured=>match first.toList with | []=>opvs s captured.toList fun vs=>K false n (.fn f vs) h | _=>False
 | .makeSlice t l c=>elemTI tt t fun i=>opv s l fun l=>opv s c fun c=>match l,c with
  | .int _ a,.int _ b=>a=b∧0≤a∧a*i.bytes≤281474976710656∧K false (n+1) (.own n) (upd h n (some (.rows i.size (List.replicate a.toNat i.zero) [])))
  | _,_=>False
 | .slice t x lo hi none=>ty tt t fun i=>opv s x fun x=>opvO s lo fun lo=>opvO s hi fun hi=>sliceV tt i x lo hi h fun v=>K false n v h
 | .fieldAddr t x f=>ty tt t fun i=>opv s x fun v=>match i.kind with
  | .struct fs=>match fs[f]? with
   | some (off,_)=>(match v with | .ptr id r c=>(match h id with | some _=>K false n (.ptr id r (c+off)) h | none=>False) | .rp row c=>K false n (.rp row (c+off)) h | _=>False)
   | none=>False
  | _=>False
 | .field t x f=>ty tt t fun i=>opv s x fun v=>match i.kind with
  | .struct fs=>match fs[f]? with
   | some (off,u)=>ty tt u fun j=>(match v with | .agg cs=>takeN cs off j.size fun cs=>ofCells j cs fun v=>K false n v h | _=>False)
   | none=>False
  | _=>False
 | .indexAddr t x i=>elemTI tt t fun e=>opv s x fun x=>opv s i fun i=>match i with
  | .int _ i=>match x with
   | .ro k rows=>0≤i∧∃ row,rows[i.toNat]?=some row∧bif Nat.beq k e.size then K false n (.rp row 0) h else False
   | .own id=>(match h id with | some (.rows k rs _)=>0≤i∧i < rs.length∧bif Nat.beq k e.size then K false n (.ptr id i.toNat 0) h else False | _=>False)
   | .sl id off len=>(match h id with | some (.rows k _ _)=>0≤i∧i < len∧bif Nat.beq k e.size then K false n (.ptr id (off+i.toNat) 0) h else False | _=>False)
   | _=>False
  | _=>False
 | .index t x i=>ty tt t fun j=>opv s x fun x=>opv s i fun i=>match j.kind with
  | .str=>(match x,i with
   | .str s,.int _ i=>0≤i∧i < s.size∧K false n (.int .u8 (byteAt s i)) h
   | _,_=>False)
  | _=>False
 | .extract x i=>opv s x fun x=>match x with | .tup vs=>(match vs[i]? with | some v=>K false n v h | none=>False) | _=>False
 | .call c=>match c.callee with
  | .builtin b=>opvs s c.args.toList fun vs=>match b with
   | .len=>(match c.argTypes.toList with | t::_=>ty tt t fun i=>(match vs with | [x]=>lenV i x h fun v=>K false n v h | _=>False) | _=>False)
   | .append=>(match c.argTypes.toList with
    | t::t2::_=>elemTI tt t fun i=>ty tt t2 fun j=>(match vs with
     | [x,y]=>(match j.kind with
      | .slice _=>append n i x y h fun n v h=>K true n v h
      | .str=>append n i x y h fun n v h=>K true n v h
      | _=>False)
     | _=>False)
    | _=>False)
   | .max=>(match vs with | v::vs=>minMax true v vs fun v=>K false n v h | _=>False)
   | .min=>(match vs with | v::vs=>minMax false v vs fun v=>K false n v h | _=>False)
   | .copy=>(match c.argTypes.toList with | t::_=>elemTI tt t fun i=>(match vs with | [x,y]=>(bif Nat.beq i.size 1 then copyV x y h fun v h=>K true n v h else False) | _=>False) | _=>False)
   | .clear=>(match c.argTypes.toList with | t::_=>elemTI tt t fun i=>(match vs with | [x]=>clearV i.zero x h fun v h=>K true n v h | _=>False) | _=>False)
   | _=>False
  | .value f=>opv s f fun f=>match f with | .fn f cap=>opvs s c.args.toList fun vs=>call C n f (vs++cap) h K | _=>False
  | _=>False
 | _=>False
def aops (all:List Oper) (n:Nat) (ops:List Oper) (s:Slots) (h:Heap) (K:Nat→Slots→Heap→Prop):Prop:=
 match ops with
 | []=>K n s h
 | o::rest=>
  match o.guard with
  | none=>aop C tt n o s h fun _ n v h=>aops all n rest (put s o.dst v) h K
  | some (j,want)=>match all[j]? with
   | some oj=>match oj.dst with
    | some d=>match s d with
     | some b=>
      let yes (s:Slots):=aop C tt n o s h fun _ n v h=>aops all n rest (put s o.dst v) h K
      let no (s:Slots):=aops all n rest (put s o.dst (.tup [])) h K
      match b with
      | .tt=>(match want with | true=>yes s | false=>no s)
      | .ff=>(match want with | true=>no s | false=>yes s)
      | .bool b=>(match want with
       | true=>(b=true→yes (put s (some d) .tt))∧(b=false→no (put s (some d) .ff))
       | false=>(b=false→yes (put s (some d) .ff))∧(b=true→no (put s (some d) .tt)))
      | .tup []=>no s
      | _=>False
     | none=>False
    | none=>False
   | none=>False
def reach (n:Nat) (h:Heap) (ids:List Nat):List Nat:=
 match n with
 | 0=>ids
 | n+1=>match ids with
  | []=>[]
  | i::r=>i::(match h i with
   | some (.box _ hs)=>reach n h (hs.map Hole.id++r)
   | some (.rows _ _ hs)=>reach n h (hs.map Hole.id++r)
   | none=>reach n h r)
def idsC:AV→List Nat
 | .own i=>[i]
 | .sl i _ _=>[i]
 | .ptr i _ _=>[i]
 | _=>[]
def idsCs:List AV→List Nat
 | []=>[]
 | v::r=>idsC v++idsCs r
def idsA:AV→List Nat
 | .agg cs=>idsCs cs
 | .fn _ cs=>idsCs cs
 | v=>idsC v
def idsAs:List AV→List Nat
 | []=>[]
 | v::r=>idsA v++idsAs r
def idsOf:AV→List Nat
 | .tup cs=>idsAs cs
 | v=>idsA v
def idsOps (s:Slots):List Operand→List Nat
 | []=>[]
 | .tmp t::r=>(match s t with | some v=>idsOf v++idsOps s r | none=>idsOps s r)
 | _::r=>idsOps s r
def mem (i:Nat):List Nat→Bool
 | []=>false
 | j::r=>bif Nat.beq i j then true else mem i r
def restr (h:Heap) (F:List Nat):Heap:=match F with | []=>fun _=>none | F=>fun j=>bif mem j F then h j else none
def merge (h h':Heap) (F:List Nat) (w:Bool) (n n':Nat):Heap:=fun j=>bif (w&&mem j F)||(Nat.ble n j&&Nat.blt j n') then h' j else h j
def okC (F:List Nat) (n n':Nat):AV→Bool
 | .own i=>mem i F||(Nat.ble n i&&Nat.blt i n')
 | .sl i _ _=>mem i F||(Nat.ble n i&&Nat.blt i n')
 | .ptr i _ _=>mem i F||(Nat.ble n i&&Nat.blt i n')
 | .agg _=>false
 | .tup _=>false
 | .fn _ _=>false
 | _=>true
def okCs (F:List Nat) (n n':Nat):List AV→Bool
 | []=>true
 | v::r=>okC F n n' v&&okCs F n n' r
def okA (F:List Nat) (n n':Nat):AV→Bool
 | .agg cs=>okCs F n n' cs
 | .fn _ cs=>okCs F n n' cs
 | v=>okC F n n' v
def okAs (F:List Nat) (n n':Nat):List AV→Bool
 | []=>true
 | v::r=>okA F n n' v&&okAs F n n' r
def okN (F:List Nat) (n n':Nat):AV→Bool
 | .tup cs=>okAs F n n' cs
 | v=>okA F n n' v
def okHs (F:List Nat) (n n':Nat):List Hole→Bool
 | []=>true
 | x::r=>(mem x.id F||(Nat.ble n x.id&&Nat.blt x.id n'))&&okHs F n n' r
def okB (F:List Nat) (n n':Nat) (h:Heap):List Nat→Bool
 | []=>true
 | i::r=>(match h i with
  | some (.box _ hs)=>okHs F n n' hs
  | some (.rows _ _ hs)=>okHs F n n' hs
  | none=>true)&&okB F n n' h r
def okOps (F:List Nat) (s:Slots):List Operand→Bool
 | []=>true
 | .tmp t::r=>(match s t with | some v=>okN F 0 0 v | none=>true)&&okOps F s r
 | _::r=>okOps F s r
def news (n:Nat):Nat→List Nat
 | 0=>[]
 | k+1=>n::news (n+1) k
def belowN (n:Nat):List Nat→Bool
 | []=>true
 | i::r=>Nat.blt i n&&belowN n r
def forceN (l:List Nat) (K:List Nat→Prop):Prop:=match l with | []=>K [] | i::r=>forceN r fun r=>K (i::r)
def usesT (t:Nat):List Operand→Bool
 | []=>false
 | .tmp u::r=>bif Nat.beq t u then true else usesT t r
 | _::r=>usesT t r
def onlyS (s:Slots) (l:List Operand):Slots:=fun t=>bif usesT t l then s t else none
def undL (cs:List AV):List AV:=match cs with | []=>[] | _::r=> .und::undL r
def onlyI (cs:List AV) (i:Nat):List AV:=match cs with
 | []=>[]
 | v::r=>match i with | 0=>v::undL r | i+1=> .und::onlyI r i
def seeS (s:Slots) (op:Op):Slots:=match op with
 | .extract _ i=>fun t=>(match s t with | some (.tup cs)=>some (.tup (onlyI cs i)) | x=>x)
 | _=>s
def holeIn (hs:List Hole) (c:Nat):Option Nat:=match hs with
 | []=>none
 | ⟨_,c',id⟩::r=>bif Nat.beq c' c then some id else holeIn r c
def nthA (row:List AV) (c:Nat):Option AV:=match row with
 | []=>none
 | v::r=>match c with | 0=>some v | c+1=>nthA r c
def lite (tt:TypeId→Option TI) (h:Heap) (s:Slots) (op:Op):Option (AV×List Nat):=match op with
 | .move (.tmp t)=>(match s t with | some (.ptr i r c)=>some (.ptr i r c,[]) | _=>none)
 | .fieldAddr ty (.tmp t) f=>(match s t with
  | some (.ptr i r c)=>(match h i with
   | some (.box _ _)=>(match tt ty with
    | some ⟨_,_,_,.struct fs,_⟩=>(match fs[f]? with | some (off,_)=>some (.ptr i r (c+off),[i]) | none=>none)
    | _=>none)
   | _=>none)
  | _=>none)
 | .load ty (.tmp t)=>(match s t with
  | some (.ptr i r c)=>(match h i with
   | some (.box row hs)=>(match holeIn hs c with
    | some j=>(match tt ty with
     | some ⟨1,_,_,.slice _,_⟩=>(match Nat.blt c row.length with | true=>some (.own j,[i]) | false=>none)
     | _=>none)
    | none=>(match tt ty with
     | some ⟨1,_,_,.int _,_⟩=>(match nthA row c with | some (.int k n)=>some (.int k n,[i]) | _=>none)
     | _=>none))
   | _=>none)
  | _=>none)
 | .nilCheck (.tmp t)=>(match s t with
  | some (.ptr i r c)=>(match h i with
   | some (.box _ _)=>some (.ptr i r c,[i])
   | _=>none)
  | _=>none)
 | _=>none
def dropH (c:Nat) (hs:List Hole):List Hole:=match hs with
 | []=>[]
 | ⟨r,c',id⟩::hs=>bif Nat.ble c c'&&Nat.blt c' (c+1) then dropH c hs else ⟨r,c',id⟩::dropH c hs
def setN (row:List AV) (c:Nat):List AV:=match row with
 | []=>[]
 | v::row=>match c with | 0=> .nilp::row | c+1=>v::setN row c
def liteS (tt:TypeId→Option TI) (h:Heap) (s:Slots) (op:Op):Option (Nat×Blk):=match op with
 | .store ty (.tmp t) (.tmp x)=>(match s t with
  | some (.ptr i _ c)=>(match s x with
   | some (.own j)=>(match h i with
    | some (.box row hs)=>(match tt ty with
     | some ⟨1,_,_,_,_⟩=>(match Nat.blt c row.length with | true=>some (i,.box (setN row c) (⟨0,c,j⟩::dropH c hs)) | false=>none)
     | _=>none)
    | _=>none)
   | _=>none)
  | _=>none)
 | _=>none
structure Log where
 i:Nat
 F:List Nat
 w:Bool
def aopsD (all:List Oper) (n:Nat) (i:Nat) (ops:List Oper) (s:Slots) (h:Heap) (log:List Log) (K:Nat→Slots→Heap→List Log→Prop):Prop:=
 match ops with
 | []=>K n s h log
 | o::rest=>
  let go (s:Slots):=match lite tt h s o.op with | some (v,F)=>(match belowN n F with | true=>aopsD all n (i+1) rest (put s o.dst v) h (⟨i,F,false⟩::log) K | false=>False) | none=>match liteS tt h s o.op with | some (j,b)=>(match belowN n [j] with | true=>aopsD all n (i+1) rest (put s o.dst .und) (upd h j (some b)) (⟨i,[j],true⟩::log) K | false=>False) | none=>forceN (reach 40 h (idsOps (seeS s o.op) o.op.operands.toList)) fun F=>(match belowN n F&&(okOps F (seeS s o.op) o.op.operands.toList&&okB F 0 0 h F) with
   | true=>aop C tt n o (onlyS (seeS s o.op) o.op.operands.toList) (restr h F) fun w n' v h'=>
    match !w&&Nat.beq n' n with
    | true=>(match okN F n n v with
     | true=>aopsD all n (i+1) rest (put s o.dst v) h (⟨i,F,false⟩::log) K
     | false=>False)
    | false=>forceN (news n (n' - n)) fun N=>(match Nat.ble n n'&&(okN F n n' v&&(okB F n n' h' F&&okB F n n' h' N)) with
     | true=>aopsD all n' (i+1) rest (put s o.dst v) (merge h h' F w n n') (⟨i,N,true⟩::⟨i,F,w⟩::log) K
     | false=>False)
   | false=>False)
  match o.guard with
  | none=>go s
  | some (j,want)=>match all[j]? with
   | some oj=>match oj.dst with
    | some d=>match s d with
     | some b=>
      let no (s:Slots):=aopsD all n (i+1) rest (put s o.dst (.tup [])) h log K
      match b with
      | .tt=>(match want with | true=>go s | false=>no s)
      | .ff=>(match want with | true=>no s | false=>go s)
      | .bool b=>(match want with
       | true=>(b=true→go (put s (some d) .tt))∧(b=false→no (put s (some d) .ff))
       | false=>(b=false→go (put s (some d) .ff))∧(b=true→no (put s (some d) .tt)))
      | .tup []=>no s
      | _=>False
     | none=>False
    | none=>False
   | none=>False
def meets (F G:List Nat):Bool:=match F with | []=>false | i::r=>mem i G||meets r G
def logOk (before:Array Nat):List Log→Bool
 | []=>true
 | e::r=>r.all (fun d=>(!e.w&&!d.w)||!meets e.F d.F||(before.getD e.i 0).testBit d.i)&&logOk before r
def tmpsOf:List Operand→List Nat
 | []=>[]
 | .tmp t::r=>t::tmpsOf r
 | _::r=>tmpsOf r
def namesO (ops:Array Oper) (o:Oper):List Nat:=
 let l:=tmpsOf o.op.operands.toList
 let l:=match o.dst with | some d=>d::l | none=>l
 match o.guard with
 | some (g,_)=>(match ops[g]? with | some x=>(match x.dst with | some d=>d::l | none=>l) | none=>l)
 | none=>l
def ordered (before:Array Nat) (i j:Nat):Bool:=bif Nat.blt i j then (before.getD j 0).testBit i else bif Nat.blt j i then (before.getD i 0).testBit j else true
def writesOk (before:Array Nat) (i d:Nat) (j:Nat) (names:List (List Nat)):Bool:=match names with
 | []=>true
 | l::r=>(!mem d l||ordered before i j)&&writesOk before i d (j+1) r
def slotsOk (before:Array Nat) (names:List (List Nat)) (i:Nat):List Oper→Bool
 | []=>true
 | o::r=>(match o.dst with | some d=>writesOk before i d 0 names | none=>true)&&slotsOk before names (i+1) r
def edgesOk (i:Nat):List Oper→Bool
 | []=>true
 | o::r=>o.after.toList.all (fun e=>!Region.binds .any e||Nat.blt e.on i)&&edgesOk (i+1) r
def regOk (ops:Array Oper) (log:List Log):Bool:=
 edgesOk 0 ops.toList&&(slotsOk (Region.before ops) (ops.toList.map (namesO ops)) 0 ops.toList&&logOk (Region.before ops) log)
inductive Ex where
 | normal
 | exit (id:Nat)
 | ret
structure Loose where
 s:List (Nat×AV)
 h:List (Nat×Blk)
def addRen (ren:List (Nat×Nat)) (i j:Nat) (K:List (Nat×Nat)→Prop):Prop:=
 match ren.find? (fun p=>Nat.beq p.1 i) with
 | some (_,j')=>bif Nat.beq j j' then K ren else False
 | none=>K ((i,j)::ren)
def renC (x v:AV) (ren:List (Nat×Nat)) (K:List (Nat×Nat)→Prop):Prop:=match v with
 | .own i=>(match x with | .own j=>addRen ren i j K | _=>False)
 | .sl i o l=>(match x with | .sl j o' l'=>o'=o∧l'=l∧addRen ren i j K | _=>False)
 | .ptr i r c=>(match x with | .ptr j r' c'=>r'=r∧c'=c∧addRen ren i j K | _=>False)
 | .agg _=>False
 | .tup _=>False
 | .fn _ _=>False
 | v=>x=v∧K ren
def renCs (xs vs:List AV) (ren:List (Nat×Nat)) (K:List (Nat×Nat)→Prop):Prop:=match vs with
 | []=>(match xs with | []=>K ren | _=>False)
 | v::vs=>(match xs with | x::xs=>renC x v ren fun ren=>renCs xs vs ren K | _=>False)
def renA (x v:AV) (ren:List (Nat×Nat)) (K:List (Nat×Nat)→Prop):Prop:=match v with
 | .agg vs=>(match x with | .agg xs=>renCs xs vs ren K | _=>False)
 | .fn f vs=>(match x with | .fn g xs=>g=f∧renCs xs vs ren K | _=>False)
 | v=>renC x v ren K
def thaw (h:Heap) (x v:AV):AV:=match x with
 | .own id=>(match v with
  | .ro k _=>(match h id with | some (.rows _ [] _)=> .ro k [] | _=> .own id)
  | _=> .own id)
 | .tt=>(match v with | .bool _=> .bool true | _=> .tt)
 | .ff=>(match v with | .bool _=> .bool false | _=> .ff)
 | x=>x
def slotsLe (s:Slots) (h:Heap) (l:List (Nat×AV)) (ren:List (Nat×Nat)) (K:List (Nat×Nat)→Prop):Prop:=match l with
 | []=>K ren
 | (t,v)::r=>match s t with
  | some x=>renA (thaw h x v) v ren fun ren=>slotsLe s h r ren K
  | none=>False
def holesLe (ren:List (Nat×Nat)) (hs hs2:List Hole):Prop:=match hs with
 | []=>(match hs2 with | []=>True | _=>False)
 | x::hs=>match hs2 with
  | []=>False
  | y::hs2=>(x.row=y.row∧x.cell=y.cell)∧(match ren.find? (fun p=>Nat.beq p.1 y.id) with | some (_,j)=>j=x.id | none=>False)∧holesLe ren hs hs2
def closesH (h:Heap) (ren:List (Nat×Nat)) (l:List (Nat×Blk)):Prop:=match l with
 | []=>True
 | (id,b)::r=>match ren.find? (fun p=>Nat.beq p.1 id) with
  | some (_,j)=>(match h j with
   | some (.rows k rs hs)=>(match b with | .rows k2 rs2 []=>closeHoles 40 true (upd h j none) [] rs hs fun rs h _=>k=k2∧SimRows rs rs2∧closesH h ren r | _=>False)
   | some (.box row hs)=>(match b with
    | .box row2 []=>closeHoles 40 true (upd h j none) [] [row] hs fun rs h _=>SimRows rs [row2]∧closesH h ren r
    | .box row2 (x::hs2)=>row=row2∧holesLe ren hs (x::hs2)∧closesH (upd h j none) ren r
    | _=>False)
   | _=>False)
  | none=>False
def Weak (s:Slots) (h:Heap) (l:Loose):Prop:=slotsLe s h l.s [] fun ren=>closesH h ren l.h
def forceNat (n:Nat) (K:Nat→Prop):Prop:=match n with
 | 0=>K 0 | 1=>K 1 | 2=>K 2 | 3=>K 3 | 4=>K 4 | 5=>K 5 | 6=>K 6 | 7=>K 7 | 8=>K 8 | 9=>K 9 | 10=>K 10 | n=>K n
def above (n:Nat):List Nat→Nat
 | []=>n
 | i::r=>above (bif Nat.blt i n then n else i+1) r
def aboveS (n:Nat):List (Nat×AV)→Nat
 | []=>n
 | (_,v)::r=>aboveS (above n (idsOf v)) r
def idsH:List Hole→List Nat
 | []=>[]
 | x::r=>x.id::idsH r
def idsB:Blk→List Nat
 | .box _ hs=>idsH hs
 | .rows _ _ _=>[]
def aboveH (n:Nat):List (Nat×Blk)→Nat
 | []=>n
 | (i,b)::r=>aboveH (above n (i::idsB b)) r
def nextId (l:Loose):Nat:=aboveS (aboveH 0 l.h) l.s
def resultsV (l:List ResultVar) (n:Nat) (s:Slots) (h:Heap) (K:List AV→Heap→Prop):Prop:=
 match l with
 | []=>K [] h
 | .tmp t::r=>opv s (.tmp t) fun v=>resultsV r n s h fun vs h=>K (v::vs) h
 | .cell a t::r=>ty tt t fun i=>opv s (.tmp a) fun a=>load n i a h fun _ n v h=>resultsV r n s h fun vs h=>K (v::vs) h
def tuple (l:List AV):AV:=match l with | [v]=>v | l=> .tup l
def outsK (h:Heap) (s:Slots) (j:Nat) (outs:List (Option AV)):Prop:=
 match outs with
 | []=>True
 | o::os=>match o with
  | none=>outsK h s (j+1) os
  | some o=>opv s (.tmp j) fun v=>closeV 40 (match v with | .ptr _ _ _=> .mut | _=> .mv) h [] v fun o' h vis=>(match vis with | []=>Sim o' o∧outsK h s (j+1) os | _=>False)
def number (i:Nat) (l:List AV):List (Nat×AV):=match l with | []=>[] | v::r=>(i,v)::number (i+1) r
end
end Go.Proofs.VI
end
section
namespace Go.Proofs.VI
open Go
abbrev Key:=Nat×List (Nat×Nat)
inductive G where
 | imm
 | key (k:Key)
abbrev Gh:=Nat→Option G
def kid (K:Option Key) (r c:Nat):Option Key:=match K with | some K=>some (K.1,K.2++[(r,c)]) | none=>none
def freeC (k:Nat) (C:Array Value) (fr:Nat×Nat):Prop:=(∀ i,i < C.size→¬ (fr.1≤i∧i < fr.2))∧(k≠1→¬ (fr.1≤C.size∧C.size < fr.2))
def owns (κ:Gh) (K:Option Key) (b:Nat):Prop:=match K with | some K=>κ b=some (.key K) | none=>False
def noL:AV→Value→Prop:=fun _ _=>False
mutual
def relV (w:World) (κ:Gh) (L:AV→Value→Prop) (K:Option Key) (v:AV) (u:Value):Prop:=
 match v with
 | .und=>True
 | .int k n=>u= .int k n
 | .bool b=>u= .bool b
 | .tt=>u= .bool true
 | .ff=>u= .bool false
 | .str s=>u= .string s
 | .nilp=>u= .pointer none
 | .nili=>u= .nilIface
 | .ifc=>u.oneCell'=true
 | .nils=>∃ A,u= .slice A 0 0
 | .own i=>L (.own i) u
 | .sl i o l=>L (.sl i o l) u
 | .ptr i r c=>L (.ptr i r c) u
 | .ro k rows=>∃ A cap,u= .slice A rows.length cap∧rows.length≤cap∧(rows=[]∨∃ b off C t fr,A=some ⟨b,off,none⟩∧w.heap[b]?=some (.cells C t fr)∧κ b=some .imm∧relRs w κ none k 0 rows C off)
 | .ow k rows=>∃ A cap,u= .slice A rows.length cap∧rows.length≤cap∧(cap=0∨∃ b off C t fr,A=some ⟨b,off,none⟩∧w.heap[b]?=some (.cells C t fr)∧freeC k C fr∧owns κ K b∧off+cap*k≤C.size∧relRs w κ K k 0 rows C off)
 | .rp row c=>∃ b off C t fr,u= .pointer (some ⟨b,off+c,none⟩)∧w.heap[b]?=some (.cells C t fr)∧κ b=some .imm∧relRow w κ none 0 0 row C off
 | .pb row=>∃ b off C t fr,u= .pointer (some ⟨b,off,none⟩)∧w.heap[b]?=some (.cells C t fr)∧freeC 1 C fr∧owns κ K b∧relRow w κ K 0 0 row C off
 | .agg cs=>∃ vs:List Value,u= .agg vs.toArray∧relL w κ L K 0 cs vs
 | .tup cs=>∃ vs:List Value,u= .tuple vs.toArray∧relL w κ L K 0 cs vs
 | .fn f cs=>∃ vs:List Value,u= .func (.func f) #[] vs.toArray∧relL w κ L none 0 cs vs
def relL (w:World) (κ:Gh) (L:AV→Value→Prop) (K:Option Key) (c:Nat) (cs:List AV) (vs:List Value):Prop:=
 match cs with
 | []=>vs=[]
 | v::cs=>∃ u us,vs=u::us∧relV w κ L (kid K 0 c) v u∧relL w κ L K (c+1) cs us
def relRow (w:World) (κ:Gh) (K:Option Key) (r c:Nat) (cs:List AV) (C:Array Value) (o:Nat):Prop:=
 match cs with
 | []=>True
 | v::cs=>(∃ u,C[o]?=some u∧relV w κ noL (kid K r c) v u)∧relRow w κ K r (c+1) cs C (o+1)
def relRs (w:World) (κ:Gh) (K:Option Key) (k r:Nat) (rows:List (List AV)) (C:Array Value) (o:Nat):Prop:=
 match rows with
 | []=>True
 | row::rows=>row.length=k∧relRow w κ K r 0 row C o∧relRs w κ K k (r+1) rows C (o+k)
end
def KeyMap (w w':World) (κ κ':Gh) (K K':Option Key):Prop:=
 match K with
 | none=>K'=none
 | some K=>∃ K1,K'=some K1∧∀ q b,κ b=some (.key (K.1,K.2++q))→κ' b=some (.key (K1.1,K1.2++q))∧w'.heap[b]?=w.heap[b]?
def ImmMap (w w':World) (κ κ':Gh):Prop:=∀ b,κ b=some .imm→κ' b=some .imm∧w'.heap[b]?=w.heap[b]?
theorem KeyMap.kid {w w':World} {κ κ':Gh} {K K':Option Key} (h:KeyMap w w' κ κ' K K') (r c:Nat):KeyMap w w' κ κ' (kid K r c) (kid K' r c):=by
 cases K with
 | none=>simp only[KeyMap] at h;subst h;rfl
 | some K=>
  obtain ⟨K1,rfl,h⟩:=h
  refine ⟨_,rfl,fun q b hb=>?_⟩
  have:=h ((r,c)::q) b (by simpa [List.append_assoc] using hb)
  simpa [List.append_assoc] using this
theorem KeyMap.none_ {w w':World} {κ κ':Gh}:KeyMap w w' κ κ' none none:=rfl
theorem KeyMap.owns {w w':World} {κ κ':Gh} {K K':Option Key} (h:KeyMap w w' κ κ' K K') {b:Nat} (hb:owns κ K b):owns κ' K' b∧w'.heap[b]?=w.heap[b]?:=by
 cases K with
 | none=>exact hb.elim
 | some K=>
  obtain ⟨K1,rfl,h⟩:=h
  have:=h [] b (by simpa [VI.owns] using hb)
  simpa [VI.owns] using this
mutual
theorem relV_move {w w':World} {κ κ':Gh} {L L':AV→Value→Prop} (hI:ImmMap w w' κ κ') (hL:∀ v u,L v u→L' v u):
  ∀ (v:AV) (K K':Option Key) (u:Value),KeyMap w w' κ κ' K K'→relV w κ L K v u→relV w' κ' L' K' v u
 | .und,_,_,_,_,_=>trivial
 | .int ..,_,_,_,_,h=>h
 | .bool ..,_,_,_,_,h=>h
 | .tt,_,_,_,_,h=>h
 | .ff,_,_,_,_,h=>h
 | .str ..,_,_,_,_,h=>h
 | .nilp,_,_,_,_,h=>h
 | .nili,_,_,_,_,h=>h
 | .nils,_,_,_,_,h=>h
 | .ifc,_,_,_,_,h=>h
 | .own ..,_,_,_,_,h=>hL _ _ h
 | .sl ..,_,_,_,_,h=>hL _ _ h
 | .ptr ..,_,_,_,_,h=>hL _ _ h
 | .ro k rows,_,_,_,_,h=>by
  obtain ⟨A,cap,hu,hl,h⟩:=h
  refine ⟨A,cap,hu,hl,?_⟩
  rcases h with h | ⟨b,off,C,t,fr,hA,hb,hk,hr⟩
  ·exact .inl h
  ·exact .inr ⟨b,off,C,t,fr,hA,(hI b hk).2.trans hb,(hI b hk).1,relRs_move hI rows none none k 0 C off .none_ hr⟩
 | .ow k rows,K,K',_,hK,h=>by
  obtain ⟨A,cap,hu,hl,h⟩:=h
  refine ⟨A,cap,hu,hl,?_⟩
  rcases h with h | ⟨b,off,C,t,fr,hA,hb,hf,hk,hs,hr⟩
  ·exact .inl h
  ·exact .inr ⟨b,off,C,t,fr,hA,(hK.owns hk).2.trans hb,hf,(hK.owns hk).1,hs,relRs_move hI rows K K' k 0 C off hK hr⟩
 | .rp row c,_,_,_,_,h=>by
  obtain ⟨b,off,C,t,fr,hA,hb,hk,hr⟩:=h
  exact ⟨b,off,C,t,fr,hA,(hI b hk).2.trans hb,(hI b hk).1,relRow_move hI row none none 0 0 C off .none_ hr⟩
 | .pb row,K,K',_,hK,h=>by
  obtain ⟨b,off,C,t,fr,hA,hb,hf,hk,hr⟩:=h
  exact ⟨b,off,C,t,fr,hA,(hK.owns hk).2.trans hb,hf,(hK.owns hk).1,relRow_move hI row K K' 0 0 C off hK hr⟩
 | .agg cs,K,K',_,hK,h=>by
  obtain ⟨vs,hu,h⟩:=h
  exact ⟨vs,hu,relL_move hI hL cs K K' 0 vs hK h⟩
 | .tup cs,K,K',_,hK,h=>by
  obtain ⟨vs,hu,h⟩:=h
  exact ⟨vs,hu,relL_move hI hL cs K K' 0 vs hK h⟩
 | .fn f cs,_,_,_,_,h=>by
  obtain ⟨vs,hu,h⟩:=h
  exact ⟨vs,hu,relL_move hI hL cs none none 0 vs .none_ h⟩
theorem relL_move {w w':World} {κ κ':Gh} {L L':AV→Value→Prop} (hI:ImmMap w w' κ κ') (hL:∀ v u,L v u→L' v u):
  ∀ (cs:List AV) (K K':Option Key) (c:Nat) (vs:List Value),KeyMap w w' κ κ' K K'→relL w κ L K c cs vs→relL w' κ' L' K' c cs vs
 | [],_,_,_,_,_,h=>h
 | v::cs,K,K',c,_,hK,h=>by
  obtain ⟨u,us,hv,h1,h2⟩:=h
  exact ⟨u,us,hv,relV_move hI hL v _ _ u (hK.kid 0 c) h1,relL_move hI hL cs K K' (c+1) us hK h2⟩
theorem relRow_move {w w':World} {κ κ':Gh} (hI:ImmMap w w' κ κ'):
  ∀ (cs:List AV) (K K':Option Key) (r c:Nat) (C:Array Value) (o:Nat),KeyMap w w' κ κ' K K'→relRow w κ K r c cs C o→relRow w' κ' K' r c cs C o
 | [],_,_,_,_,_,_,_,_=>trivial
 | v::cs,K,K',r,c,C,o,hK,h=>by
  obtain ⟨⟨u,hu,h1⟩,h2⟩:=h
  exact ⟨⟨u,hu,relV_move hI (fun _ _ h=>h) v _ _ u (hK.kid r c) h1⟩,relRow_move hI cs K K' r (c+1) C (o+1) hK h2⟩
theorem relRs_move {w w':World} {κ κ':Gh} (hI:ImmMap w w' κ κ'):
  ∀ (rows:List (List AV)) (K K':Option Key) (k r:Nat) (C:Array Value) (o:Nat),KeyMap w w' κ κ' K K'→relRs w κ K k r rows C o→relRs w' κ' K' k r rows C o
 | [],_,_,_,_,_,_,_,_=>trivial
 | row::rows,K,K',k,r,C,o,hK,h=>by
  obtain ⟨h0,h1,h2⟩:=h
  exact ⟨h0,relRow_move hI row K K' r 0 C o hK h1,relRs_move hI rows K K' k (r+1) C (o+k) hK h2⟩
end
end Go.Proofs.VI
end
section
namespace Go.Proofs.VI
open Go
def HasBlk (w:World) (κ:Gh) (a:Addr) (id k n:Nat):Prop:=
 a.spot=none∧∃ C t fr,w.heap[a.block]?=some (.cells C t fr)∧freeC k C fr∧κ a.block=some (.key (id,[]))∧a.off+n≤C.size
def shp:Option Blk→Option (Option (Nat×Nat))
 | none=>none
 | some (.box _ _)=>some none
 | some (.rows k rs _)=>some (some (k,rs.length))
def isSl (u:Value):Prop:=∃ A l c,u= .slice A l c
def isPt (u:Value):Prop:=∃ A,u= .pointer A
def liveV (w:World) (κ:Gh) (m:Nat→Addr) (n:Nat) (h:Heap) (v:AV) (u:Value):Prop:=
 match v with
 | .own id=>id < n∧isSl u∧(match shp (h id) with
  | some (some (k,l))=>∃ A cap,u= .slice A l cap∧l≤cap∧(cap=0∨(A=some (m id)∧HasBlk w κ (m id) id k (cap*k)))
  | _=>True)
 | .sl id off len=>id < n∧isSl u∧(match shp (h id) with
  | some (some (k,l))=>off+len≤l∧∃ A cap,u= .slice A len cap∧len≤cap∧(cap=0∨(A=some ⟨(m id).block,(m id).off+off*k,none⟩∧HasBlk w κ (m id) id k ((off+cap)*k)))
  | _=>True)
 | .ptr id r c=>id < n∧isPt u∧(match shp (h id) with
  | some none=>u= .pointer (some ⟨(m id).block,(m id).off+c,none⟩)
  | some (some (k,_))=>u= .pointer (some ⟨(m id).block,(m id).off+(r*k+c),none⟩)
  | none=>True)
 | _=>False
def findHole (hs:List Hole) (r c:Nat):Option Nat:=(hs.find? (fun x=>x.row == r&&x.cell == c)).map Hole.id
def relCell (w:World) (κ:Gh) (L:AV→Value→Prop) (id:Nat) (hs:List Hole) (r c:Nat) (v:AV) (u:Value):Prop:=
 match findHole hs r c with
 | some i=>L (.own i) u
 | none=>relV w κ noL (some (id,[(r,c)])) v u
def relHRow (w:World) (κ:Gh) (L:AV→Value→Prop) (id:Nat) (hs:List Hole) (r c:Nat) (cs:List AV) (C:Array Value) (o:Nat):Prop:=
 match cs with
 | []=>True
 | v::cs=>(∃ u,C[o]?=some u∧relCell w κ L id hs r c v u)∧relHRow w κ L id hs r (c+1) cs C (o+1)
def relHRs (w:World) (κ:Gh) (L:AV→Value→Prop) (id:Nat) (hs:List Hole) (k r:Nat) (rows:List (List AV)) (C:Array Value) (o:Nat):Prop:=
 match rows with
 | []=>True
 | row::rows=>row.length=k∧relHRow w κ L id hs r 0 row C o∧relHRs w κ L id hs k (r+1) rows C (o+k)
def relBlk (w:World) (κ:Gh) (m:Nat→Addr) (L:AV→Value→Prop) (id:Nat) (b:Blk):Prop:=
 match b with
 | .box row hs=>(∀ x∈hs,x.row=0)∧(m id).spot=none∧∃ C t fr,w.heap[(m id).block]?=some (.cells C t fr)∧freeC 1 C fr∧κ (m id).block=some (.key (id,[]))∧relHRow w κ L id hs 0 0 row C (m id).off
 | .rows k rs hs=>rs=[]∨((m id).spot=none∧∃ C t fr,w.heap[(m id).block]?=some (.cells C t fr)∧freeC k C fr∧κ (m id).block=some (.key (id,[]))∧relHRs w κ L id hs k 0 rs C (m id).off)
structure Rel (w:World) (κ:Gh) (m:Nat→Addr) (n:Nat) (s:Slots) (h:Heap) (a:Act):Prop where
 slot:∀ t v,s t=some v→t < a.tmps.size∧relV w κ (liveV w κ m n h) none v (a.tmps.getD t undef)
 blk:∀ id b,h id=some b→id < n∧relBlk w κ m (liveV w κ m n h) id b
 low:∀ b g,κ b=some g→b < w.heap.size
 fresh:∀ b id p,κ b=some (.key (id,p))→id < n
structure Stp (κ:Gh) (w:World) (κ':Gh) (w':World):Prop where
 os:w'.os=w.os
 tape:w'.tape=w.tape
 output:w'.output=w.output
 size:w.heap.size≤w'.heap.size
 kept:∀ b,b < w.heap.size→(∀ K,κ b≠some (.key K))→w'.heap[b]?=w.heap[b]?
 imm:∀ b,κ b=some .imm→κ' b=some .imm
 none_:∀ b,b < w.heap.size→κ b=none→κ' b=none
 cells:∀ (b:Nat) (C:Array Value) (t:TypeId) (fr:Nat×Nat),w.heap[b]?=some (.cells C t fr)→∃ C',w'.heap[b]?=some (.cells C' t fr)∧C'.size=C.size
theorem Stp.refl (κ:Gh) (w:World):Stp κ w κ w:=⟨rfl,rfl,rfl,Nat.le_refl _,fun _ _ _=>rfl,fun _ h=>h,fun _ _ h=>h,fun _ C _ _ h=>⟨C,h,rfl⟩⟩
theorem Stp.trans {κ κ1 κ2:Gh} {w w1 w2:World} (h:Stp κ w κ1 w1) (k:Stp κ1 w1 κ2 w2):Stp κ w κ2 w2 where
 os:=k.os.trans h.os
 tape:=k.tape.trans h.tape
 output:=k.output.trans h.output
 size:=Nat.le_trans h.size k.size
 kept b hb hk:=by
  have h1:=h.kept b hb hk
  refine (k.kept b (Nat.lt_of_lt_of_le hb h.size) fun K hK=>?_).trans h1
  cases hg:κ b with
  | none=>rw[h.none_ b hb hg] at hK;cases hK
  | some g=>cases g with
   | imm=>rw[h.imm b hg] at hK;cases hK
   | key K'=>exact hk K' hg
 imm b hb:=k.imm b (h.imm b hb)
 cells b C t fr hb:=by
  obtain ⟨C1,h1,h2⟩:=h.cells b C t fr hb
  obtain ⟨C2,h3,h4⟩:=k.cells b C1 t fr h1
  exact ⟨C2,h3,h4.trans h2⟩
 none_ b hb hk:=k.none_ b (Nat.lt_of_lt_of_le hb h.size) (h.none_ b hb hk)
theorem Stp.below {κ κ':Gh} {w w':World} (h:Stp κ w κ' w') (hk:∀ b,b < w.heap.size→∀ K,κ b≠some (.key K)):RowKit.Below w.heap.size w w':=
 ⟨h.os,h.tape,h.output,h.size,fun b hb=>h.kept b hb (hk b hb)⟩
theorem Stp.immMap {κ κ':Gh} {w w':World} (h:Stp κ w κ' w') (hl:∀ b g,κ b=some g→b < w.heap.size):ImmMap w w' κ κ':=
 fun b hb=>⟨h.imm b hb,h.kept b (hl b _ hb) fun K hK=>by rw[hb] at hK;cases hK⟩
theorem relRow_get {w:World} {κ:Gh} {K:Option Key} {r:Nat} {C:Array Value}:∀ {cs:List AV} {c o:Nat},relRow w κ K r c cs C o→∀ {i:Nat} {v:AV},cs[i]?=some v→∃ u,C[o+i]?=some u∧relV w κ noL (kid K r (c+i)) v u
 | [],_,_,_,_,_,h=>by simp at h
 | x::cs,c,o,h,0,v,hv=>by
  obtain ⟨⟨u,hu,h1⟩,_⟩:=h
  simp at hv;subst hv
  exact ⟨u,hu,h1⟩
 | x::cs,c,o,h,i+1,v,hv=>by
  obtain ⟨u,hu,h1⟩:=relRow_get (cs:=cs) (c:=c+1) (o:=o+1) h.2 (i:=i) (v:=v) (by simpa using hv)
  exact ⟨u,by rw[show o+(i+1)=o+1+i by omega];exact hu,by rw[show c+(i+1)=c+1+i by omega];exact h1⟩
theorem relRs_get {w:World} {κ:Gh} {K:Option Key} {k:Nat} {C:Array Value}:∀ {rows:List (List AV)} {r o:Nat},relRs w κ K k r rows C o→∀ {i:Nat} {row:List AV},rows[i]?=some row→row.length=k∧relRow w κ K (r+i) 0 row C (o+i*k)
 | [],_,_,_,_,_,h=>by simp at h
 | x::rows,r,o,h,0,row,hv=>by
  simp at hv;subst hv
  exact ⟨h.1,by simpa using h.2.1⟩
 | x::rows,r,o,h,i+1,row,hv=>by
  obtain ⟨h1,h2⟩:=relRs_get (rows:=rows) (r:=r+1) (o:=o+k) h.2.2 (i:=i) (row:=row) (by simpa using hv)
  refine ⟨h1,?_⟩
  rw[show r+(i+1)=r+1+i by omega,show o+(i+1)*k=o+k+i*k by rw[Nat.add_mul];omega]
  exact h2
theorem relHRow_get {w:World} {κ:Gh} {L:AV→Value→Prop} {id:Nat} {hs:List Hole} {r:Nat} {C:Array Value}:∀ {cs:List AV} {c o:Nat},relHRow w κ L id hs r c cs C o→∀ {i:Nat} {v:AV},cs[i]?=some v→∃ u,C[o+i]?=some u∧relCell w κ L id hs r (c+i) v u
 | [],_,_,_,_,_,h=>by simp at h
 | x::cs,c,o,h,0,v,hv=>by
  obtain ⟨⟨u,hu,h1⟩,_⟩:=h
  simp at hv;subst hv
  exact ⟨u,hu,h1⟩
 | x::cs,c,o,h,i+1,v,hv=>by
  obtain ⟨u,hu,h1⟩:=relHRow_get (cs:=cs) (c:=c+1) (o:=o+1) h.2 (i:=i) (v:=v) (by simpa using hv)
  exact ⟨u,by rw[show o+(i+1)=o+1+i by omega];exact hu,by rw[show c+(i+1)=c+1+i by omega];exact h1⟩
theorem relHRs_get {w:World} {κ:Gh} {L:AV→Value→Prop} {id:Nat} {hs:List Hole} {k:Nat} {C:Array Value}:∀ {rows:List (List AV)} {r o:Nat},relHRs w κ L id hs k r rows C o→∀ {i:Nat} {row:List AV},rows[i]?=some row→row.length=k∧relHRow w κ L id hs (r+i) 0 row C (o+i*k)
 | [],_,_,_,_,_,h=>by simp at h
 | x::rows,r,o,h,0,row,hv=>by
  simp at hv;subst hv
  exact ⟨h.1,by simpa using h.2.1⟩
 | x::rows,r,o,h,i+1,row,hv=>by
  obtain ⟨h1,h2⟩:=relHRs_get (rows:=rows) (r:=r+1) (o:=o+k) h.2.2 (i:=i) (row:=row) (by simpa using hv)
  refine ⟨h1,?_⟩
  rw[show r+(i+1)=r+1+i by omega,show o+(i+1)*k=o+k+i*k by rw[Nat.add_mul];omega]
  exact h2
theorem relHRow_mk {w:World} {κ:Gh} {L:AV→Value→Prop} {id:Nat} {hs:List Hole} {r:Nat} {C:Array Value}:∀ {cs:List AV} {c o:Nat},(∀ i v,cs[i]?=some v→∃ u,C[o+i]?=some u∧relCell w κ L id hs r (c+i) v u)→relHRow w κ L id hs r c cs C o
 | [],_,_,_=>trivial
 | x::cs,c,o,h=>by
  refine ⟨h 0 x rfl,relHRow_mk fun i v hv=>?_⟩
  have:=h (i+1) v (by simpa using hv)
  rwa [show o+(i+1)=o+1+i by omega,show c+(i+1)=c+1+i by omega] at this
theorem relHRs_mk {w:World} {κ:Gh} {L:AV→Value→Prop} {id:Nat} {hs:List Hole} {k:Nat} {C:Array Value}:∀ {rows:List (List AV)} {r o:Nat},(∀ i row,rows[i]?=some row→row.length=k∧relHRow w κ L id hs (r+i) 0 row C (o+i*k))→relHRs w κ L id hs k r rows C o
 | [],_,_,_=>trivial
 | x::rows,r,o,h=>by
  have h0:=h 0 x rfl
  refine ⟨h0.1,by simpa using h0.2,relHRs_mk fun i row hv=>?_⟩
  have:=h (i+1) row (by simpa using hv)
  rwa [show r+(i+1)=r+1+i by omega,show o+(i+1)*k=o+k+i*k by rw[Nat.add_mul];omega] at this
theorem relRow_mk {w:World} {κ:Gh} {K:Option Key} {r:Nat} {C:Array Value}:∀ {cs:List AV} {c o:Nat},(∀ i v,cs[i]?=some v→∃ u,C[o+i]?=some u∧relV w κ noL (kid K r (c+i)) v u)→relRow w κ K r c cs C o
 | [],_,_,_=>trivial
 | x::cs,c,o,h=>by
  refine ⟨h 0 x rfl,relRow_mk fun i v hv=>?_⟩
  have:=h (i+1) v (by simpa using hv)
  rwa [show o+(i+1)=o+1+i by omega,show c+(i+1)=c+1+i by omega] at this
theorem relRs_mk {w:World} {κ:Gh} {K:Option Key} {k:Nat} {C:Array Value}:∀ {rows:List (List AV)} {r o:Nat},(∀ i row,rows[i]?=some row→row.length=k∧relRow w κ K (r+i) 0 row C (o+i*k))→relRs w κ K k r rows C o
 | [],_,_,_=>trivial
 | x::rows,r,o,h=>by
  have h0:=h 0 x rfl
  refine ⟨h0.1,by simpa using h0.2,relRs_mk fun i row hv=>?_⟩
  have:=h (i+1) row (by simpa using hv)
  rwa [show r+(i+1)=r+1+i by omega,show o+(i+1)*k=o+k+i*k by rw[Nat.add_mul];omega] at this
theorem relHRow_len {w:World} {κ:Gh} {L:AV→Value→Prop} {id:Nat} {hs:List Hole} {r:Nat} {C:Array Value} {cs:List AV} {c o:Nat} (h:relHRow w κ L id hs r c cs C o) (h0:cs≠ []):o+cs.length≤C.size:=by
 have hp:0 < cs.length:=by cases cs with | nil=>exact absurd rfl h0 | cons=>simp
 obtain ⟨u,hu,_⟩:=relHRow_get h (i:=cs.length - 1) (v:=cs[cs.length - 1]) (by simp)
 have:=(Array.getElem?_eq_some_iff.1 hu).1
 omega
theorem relHRs_len {w:World} {κ:Gh} {L:AV→Value→Prop} {id:Nat} {hs:List Hole} {k r:Nat} {C:Array Value} {rows:List (List AV)} {o:Nat} (h:relHRs w κ L id hs k r rows C o) (h0:rows≠ []) (hk:k≠0):o+rows.length*k≤C.size:=by
 have hp:0 < rows.length:=by cases rows with | nil=>exact absurd rfl h0 | cons=>simp
 obtain ⟨h1,h2⟩:=relHRs_get h (i:=rows.length - 1) (row:=rows[rows.length - 1]) (by simp)
 have:=relHRow_len h2 (fun e=>hk (by rw[←h1,e];rfl))
 have e:(rows.length - 1)*k+k=rows.length*k:=by rw[←Nat.succ_mul];congr 1;omega
 omega
end Go.Proofs.VI
end
section
set_option linter.unusedVariables false
namespace Go.Proofs.VI
open Go
theorem beqF {a b:Nat} (h:a≠b):Nat.beq a b=false:=by
 cases e:Nat.beq a b with
 | false=>rfl
 | true=>exact absurd (Nat.eq_of_beq_eq_true e) h
theorem beqT (a:Nat):Nat.beq a a=true:=Nat.beq_refl a
theorem upd_eq {α:Type} (f:Nat→Option α) (i:Nat) (b:Option α):upd f i b i=b:=by simp[upd]
theorem upd_ne {α:Type} (f:Nat→Option α) {i j:Nat} (b:Option α) (h:j≠i):upd f i b j=f j:=by simp[upd,beqF h]
theorem alloc_new (w:World) (o:Obj):(w.alloc o).heap[w.heap.size]?=some o:=by
 show (w.heap.push o)[w.heap.size]?=some o
 simp
theorem alloc_size (w:World) (o:Obj):(w.alloc o).heap.size=w.heap.size+1:=by
 show (w.heap.push o).size=_
 simp
theorem relHRow_move {w w':World} {κ κ':Gh} {L L':AV→Value→Prop} {id:Nat} {hs:List Hole} {r:Nat} {C:Array Value} (hI:ImmMap w w' κ κ') (hL:∀ v u,L v u→L' v u)
  (hK:KeyMap w w' κ κ' (some (id,[])) (some (id,[]))):∀ {cs:List AV} {c o:Nat},relHRow w κ L id hs r c cs C o→relHRow w' κ' L' id hs r c cs C o
 | [],_,_,_=>trivial
 | v::cs,c,o,h=>by
  obtain ⟨⟨u,hu,h1⟩,h2⟩:=h
  refine ⟨⟨u,hu,?_⟩,relHRow_move hI hL hK h2⟩
  unfold relCell at h1⊢
  split
  ·rename_i hf;rw[hf] at h1;exact hL _ _ h1
  ·rename_i hf;rw[hf] at h1
   exact relV_move hI (fun _ _ h=>h) v _ _ u (hK.kid r c) h1
theorem relHRs_move {w w':World} {κ κ':Gh} {L L':AV→Value→Prop} {id:Nat} {hs:List Hole} {k:Nat} {C:Array Value} (hI:ImmMap w w' κ κ') (hL:∀ v u,L v u→L' v u)
  (hK:KeyMap w w' κ κ' (some (id,[])) (some (id,[]))):∀ {rows:List (List AV)} {r o:Nat},relHRs w κ L id hs k r rows C o→relHRs w' κ' L' id hs k r rows C o
 | [],_,_,_=>trivial
 | row::rows,r,o,h=>⟨h.1,relHRow_move hI hL hK h.2.1,relHRs_move hI hL hK h.2.2⟩
theorem relBlk_move {w w':World} {κ κ':Gh} {m m':Nat→Addr} {L L':AV→Value→Prop} {id:Nat} {b:Blk} (hI:ImmMap w w' κ κ') (hL:∀ v u,L v u→L' v u)
  (hK:KeyMap w w' κ κ' (some (id,[])) (some (id,[]))) (hm:m' id=m id) (h:relBlk w κ m L id b):relBlk w' κ' m' L' id b:=by
 have hk:∀ x,κ x=some (.key (id,[]))→κ' x=some (.key (id,[]))∧w'.heap[x]?=w.heap[x]?:=fun x hx=>by
  obtain ⟨K1,e,h⟩:=hK
  injection e with e;subst e
  simpa using h [] x (by simpa using hx)
 cases b with
 | box row hs=>
  obtain ⟨h0,h1,C,t,fr,h2,h3,h4,h5⟩:=h
  exact ⟨h0,by rw[hm];exact h1,C,t,fr,by rw[hm];exact (hk _ h4).2.trans h2,h3,by rw[hm];exact (hk _ h4).1,by rw[hm];exact relHRow_move hI hL hK h5⟩
 | rows k rs hs=>
  rcases h with h | ⟨h1,C,t,fr,h2,h3,h4,h5⟩
  ·exact .inl h
  ·exact .inr ⟨by rw[hm];exact h1,C,t,fr,by rw[hm];exact (hk _ h4).2.trans h2,h3,by rw[hm];exact (hk _ h4).1,by rw[hm];exact relHRs_move hI hL hK h5⟩
theorem HasBlk.move {w w':World} {κ κ':Gh} {a:Addr} {id k N:Nat} (h:HasBlk w κ a id k N) (hk:κ a.block=some (.key (id,[]))→κ' a.block=some (.key (id,[]))∧w'.heap[a.block]?=w.heap[a.block]?):HasBlk w' κ' a id k N:=by
 obtain ⟨h1,C,t,fr,h2,h3,h4,h5⟩:=h
 exact ⟨h1,C,t,fr,(hk h4).2.trans h2,h3,(hk h4).1,h5⟩
theorem liveV_keep {w w':World} {κ κ':Gh} {m m':Nat→Addr} {n n':Nat} {h h':Heap} (hn:n≤n')
  (hh:∀ i,i < n→h' i=none∨(shp (h' i)=shp (h i)∧m' i=m i∧(∀ kl,shp (h i)=some (some kl)→∀ k N,HasBlk w κ (m i) i k N→HasBlk w' κ' (m i) i k N))):
  ∀ v u,liveV w κ m n h v u→liveV w' κ' m' n' h' v u:=by
 intro v u hv
 cases v with
 | own i=>
  obtain ⟨hi,hs,hv⟩:=hv
  refine ⟨Nat.lt_of_lt_of_le hi hn,hs,?_⟩
  rcases hh i hi with h0 | ⟨h0,h1,h2⟩
  ·rw[h0];trivial
  ·rw[h0]
   split at hv
   ·rename_i hsh
    obtain ⟨A,cap,e,hl,hc⟩:=hv
    exact ⟨A,cap,e,hl,hc.imp id fun hc=>⟨by rw[h1];exact hc.1,by rw[h1];exact h2 _ hsh _ _ hc.2⟩⟩
   ·trivial
 | sl i off len=>
  obtain ⟨hi,hs,hv⟩:=hv
  refine ⟨Nat.lt_of_lt_of_le hi hn,hs,?_⟩
  rcases hh i hi with h0 | ⟨h0,h1,h2⟩
  ·rw[h0];trivial
  ·rw[h0]
   split at hv
   ·rename_i hsh
    obtain ⟨ho,A,cap,e,hl,hc⟩:=hv
    exact ⟨ho,A,cap,e,hl,hc.imp id fun hc=>⟨by rw[h1];exact hc.1,by rw[h1];exact h2 _ hsh _ _ hc.2⟩⟩
   ·trivial
 | ptr i r c=>
  obtain ⟨hi,hs,hv⟩:=hv
  refine ⟨Nat.lt_of_lt_of_le hi hn,hs,?_⟩
  rcases hh i hi with h0 | ⟨h0,h1,h2⟩
  ·rw[h0];trivial
  ·rw[h0,h1];exact hv
 | _=>exact hv.elim
theorem liveV_move {w w':World} {κ κ':Gh} {m m':Nat→Addr} {n n':Nat} {h h':Heap} (hn:n≤n')
  (hh:∀ i,i < n→h' i=none∨(shp (h' i)=shp (h i)∧m' i=m i∧∀ x,κ x=some (.key (i,[]))→κ' x=some (.key (i,[]))∧w'.heap[x]?=w.heap[x]?)):
  ∀ v u,liveV w κ m n h v u→liveV w' κ' m' n' h' v u:=
 liveV_keep hn fun i hi=>(hh i hi).imp id fun ⟨h0,h1,h2⟩=>⟨h0,h1,fun _ _ k N hk=>hk.move (h2 _)⟩
theorem Rel.move {w w':World} {κ κ':Gh} {m m':Nat→Addr} {n n':Nat} {s:Slots} {h h':Heap} {a:Act} (R:Rel w κ m n s h a)
  (hI:ImmMap w w' κ κ') (hL:∀ v u,liveV w κ m n h v u→liveV w' κ' m' n' h' v u)
  (hb:∀ id b,h' id=some b→id < n'∧relBlk w' κ' m' (liveV w' κ' m' n' h') id b)
  (hlow:∀ b g,κ' b=some g→b < w'.heap.size) (hf:∀ b id p,κ' b=some (.key (id,p))→id < n'):Rel w' κ' m' n' s h' a where
 slot t v ht:=⟨(R.slot t v ht).1,relV_move hI hL v none none _ .none_ (R.slot t v ht).2⟩
 blk:=hb
 low:=hlow
 fresh:=hf
theorem Rel.drew {w:World} {κ:Gh} {m:Nat→Addr} {n:Nat} {s:Slots} {h:Heap} {a:Act} (R:Rel w κ m n s h a) {w':World} (hw:w'.heap=w.heap):Rel w' κ m n s h a:=by
 have hI:ImmMap w w' κ κ:=fun b hb=>⟨hb,by rw[hw]⟩
 have hL:∀ v u,liveV w κ m n h v u→liveV w' κ m n h v u:=liveV_move (Nat.le_refl _) fun i _=> .inr ⟨rfl,rfl,fun x hx=>⟨hx,by rw[hw]⟩⟩
 exact R.move hI hL (fun id b hb=>⟨(R.blk id b hb).1,relBlk_move hI hL ⟨_,rfl,fun q b hb=>⟨hb,by rw[hw]⟩⟩ rfl (R.blk id b hb).2⟩) (fun b g hb=>by rw[hw];exact R.low b g hb) R.fresh
theorem Rel.drop {w:World} {κ:Gh} {m:Nat→Addr} {n:Nat} {s:Slots} {h h':Heap} {a:Act} (R:Rel w κ m n s h a) (hh:∀ i,h' i=none∨h' i=h i):Rel w κ m n s h' a:=by
 have hI:ImmMap w w κ κ:=fun b hb=>⟨hb,rfl⟩
 have hL:∀ v u,liveV w κ m n h v u→liveV w κ m n h' v u:=liveV_move (Nat.le_refl _) fun i _=>(hh i).imp id fun e=>⟨by rw[e],rfl,fun x hx=>⟨hx,rfl⟩⟩
 refine R.move hI hL (fun id b hb=>?_) R.low R.fresh
 rcases hh id with e | e
 ·rw[e] at hb;cases hb
 ·rw[e] at hb
  exact ⟨(R.blk id b hb).1,relBlk_move hI hL ⟨_,rfl,fun q b hb=>⟨hb,rfl⟩⟩ rfl (R.blk id b hb).2⟩
theorem Rel.put {w:World} {κ:Gh} {m:Nat→Addr} {n:Nat} {s:Slots} {h:Heap} {a:Act} (R:Rel w κ m n s h a) {d:Option Nat} {v:AV} {u:Value}
  (hd:∀ t,d=some t→t < a.tmps.size) (hv:relV w κ (liveV w κ m n h) none v u):Rel w κ m n (put s d v) h (a.put d u):=by
 cases d with
 | none=>exact ⟨R.slot,R.blk,R.low,R.fresh⟩
 | some d=>
  have hd:=hd d rfl
  refine ⟨fun t x ht=>?_,R.blk,R.low,R.fresh⟩
  simp only[VI.put,upd] at ht
  simp only[Act.put,Array.size_setIfInBounds]
  by_cases e:t=d
  ·subst e
   simp at ht
   subst ht
   refine ⟨hd,?_⟩
   simpa [Array.getD,hd] using hv
  ·have:Nat.beq t d=false:=beqF e
   rw[this] at ht
   simp only[cond_false] at ht
   refine ⟨(R.slot t x ht).1,?_⟩
   have h1:=(R.slot t x ht).2
   have:(a.tmps.setIfInBounds d u).getD t undef=a.tmps.getD t undef:=by
    simp[Array.getD_eq_getD_getElem?,Array.getElem?_setIfInBounds_ne (Ne.symm e)]
   rw[this];exact h1
theorem Rel.alloc {w:World} {κ:Gh} {m:Nat→Addr} {n:Nat} {s:Slots} {h:Heap} {a:Act} (R:Rel w κ m n s h a) (C:Array Value) (t:TypeId) (b:Blk) (fr:Nat×Nat)
  (hb:∀ (κ':Gh) (m':Nat→Addr) (w':World),m' n=⟨w.heap.size,0,none⟩→w'.heap[w.heap.size]?=some (.cells C t fr)→κ' w.heap.size=some (.key (n,[]))→ImmMap w w' κ κ'→
   (∀ v u,liveV w κ m n h v u→liveV w' κ' m' (n+1) (upd h n (some b)) v u)→relBlk w' κ' m' (liveV w' κ' m' (n+1) (upd h n (some b))) n b):
  ∃ κ' m',Rel (w.alloc (.cells C t fr)) κ' m' (n+1) s (upd h n (some b)) a∧Stp κ w κ' (w.alloc (.cells C t fr))∧m' n=⟨w.heap.size,0,none⟩∧(∀ j,j < n→m' j=m j)∧
   (w.alloc (.cells C t fr)).heap[w.heap.size]?=some (.cells C t fr)∧κ' w.heap.size=some (.key (n,[]))∧ImmMap w (w.alloc (.cells C t fr)) κ κ'∧
   (∀ v u,liveV w κ m n h v u→liveV (w.alloc (.cells C t fr)) κ' m' (n+1) (upd h n (some b)) v u):=by
 have hold:∀ x,x < w.heap.size→(w.alloc (.cells C t fr)).heap[x]?=w.heap[x]?:=fun x hx=>RowKit.Below.heap_alloc w _ x hx
 have hnew:(w.alloc (.cells C t fr)).heap[w.heap.size]?=some (.cells C t fr):=alloc_new w _
 have hκ0:κ w.heap.size=none:=by
  cases e:κ w.heap.size with
  | none=>rfl
  | some g=>exact absurd (R.low _ _ e) (Nat.lt_irrefl _)
 let κ':Gh:=fun x=>if x=w.heap.size then some (.key (n,[])) else κ x
 let m':Nat→Addr:=fun i=>if i=n then ⟨w.heap.size,0,none⟩ else m i
 have hκ:∀ x g,κ x=some g→κ' x=some g∧(w.alloc (.cells C t fr)).heap[x]?=w.heap[x]?:=fun x g hx=>by
  have:=R.low x g hx
  exact ⟨by simp only[κ'];rw[if_neg (by omega)];exact hx,hold x this⟩
 have hI:ImmMap w (w.alloc (.cells C t fr)) κ κ':=fun x hx=>hκ x _ hx
 have hm:∀ j,j < n→m' j=m j:=fun j hj=>if_neg (by omega)
 have hL:∀ v u,liveV w κ m n h v u→liveV (w.alloc (.cells C t fr)) κ' m' (n+1) (upd h n (some b)) v u:=
  liveV_move (Nat.le_succ _) fun i hi=> .inr ⟨by rw[upd_ne _ _ (by omega)],hm i hi,fun x hx=>hκ x _ hx⟩
 have hκn:κ' w.heap.size=some (.key (n,[])):=if_pos rfl
 refine ⟨κ',m',?_,?_,if_pos rfl,hm,hnew,hκn,hI,hL⟩
 ·refine R.move hI hL (fun id b' hb'=>?_) (fun x g hx=>?_) (fun x id p hx=>?_)
  ·simp only[upd] at hb'
   by_cases e:id=n
   ·subst e
    simp at hb'
    subst hb'
    exact ⟨Nat.lt_succ_self _,hb κ' m' _ (if_pos rfl) hnew hκn hI hL⟩
   ·rw[beqF e] at hb'
    have hb':h id=some b':=hb'
    have:=(R.blk id b' hb').1
    exact ⟨by omega,relBlk_move hI hL ⟨_,rfl,fun q x hx=>hκ x _ hx⟩ (hm id this) (R.blk id b' hb').2⟩
  ·have hs:(w.alloc (.cells C t fr)).heap.size=w.heap.size+1:=alloc_size w _
   rw[hs]
   by_cases e:x=w.heap.size
   ·omega
   ·simp only[κ'] at hx;rw[if_neg e] at hx;have:=R.low x g hx;omega
  ·by_cases e:x=w.heap.size
   ·subst e;rw[hκn] at hx;injection hx with hx;injection hx with hx;injection hx with hx _;omega
   ·simp only[κ'] at hx;rw[if_neg e] at hx;have:=R.fresh x id p hx;omega
 ·exact ⟨rfl,rfl,rfl,by rw[alloc_size];exact Nat.le_succ _,fun x hx _=>hold x hx,fun x hx=>(hκ x _ hx).1,fun x hx h0=>by simp only[κ'];rw[if_neg (by omega)];exact h0,fun x C0 t0 fr0 hx=>⟨C0,(hold x (Array.getElem?_eq_some_iff.1 hx).1).trans hx,rfl⟩⟩
theorem relHRow_plain {w w':World} {κ κ':Gh} {L:AV→Value→Prop} {K:Key} {id:Nat} {r:Nat} {C:Array Value} (hI:ImmMap w w' κ κ') (hK:KeyMap w w' κ κ' (some K) (some (id,[]))):
  ∀ {cs:List AV} {c o:Nat},relRow w κ (some K) r c cs C o→relHRow w' κ' L id [] r c cs C o
 | [],_,_,_=>trivial
 | v::cs,c,o,h=>by
  obtain ⟨⟨u,hu,h1⟩,h2⟩:=h
  exact ⟨⟨u,hu,relV_move hI (fun _ _ h=>h) v _ _ u (hK.kid r c) h1⟩,relHRow_plain hI hK h2⟩
theorem relHRs_plain {w w':World} {κ κ':Gh} {L:AV→Value→Prop} {K:Key} {id:Nat} {k:Nat} {C:Array Value} (hI:ImmMap w w' κ κ') (hK:KeyMap w w' κ κ' (some K) (some (id,[]))):
  ∀ {rows:List (List AV)} {r o:Nat},relRs w κ (some K) k r rows C o→relHRs w' κ' L id [] k r rows C o
 | [],_,_,_=>trivial
 | row::rows,r,o,h=>⟨h.1,relHRow_plain hI hK h.2.1,relHRs_plain hI hK h.2.2⟩
def rekey (κ:Gh) (A B:Key):Gh:=fun b=>match κ b with
 | some (.key K)=>if K.1=A.1∧A.2 <+:K.2 then some (.key (B.1,B.2++K.2.drop A.2.length)) else some (.key K)
 | x=>x
theorem rekey_imm {κ:Gh} {A B:Key} {b:Nat} (h:κ b=some .imm):rekey κ A B b=some .imm:=by simp[rekey,h]
theorem rekey_none {κ:Gh} {A B:Key} {b:Nat} (h:κ b=none):rekey κ A B b=none:=by simp[rekey,h]
theorem rekey_in {κ:Gh} {A B:Key} {b:Nat} {q:List (Nat×Nat)} (h:κ b=some (.key (A.1,A.2++q))):rekey κ A B b=some (.key (B.1,B.2++q)):=by
 simp[rekey,h]
theorem rekey_out {κ:Gh} {A B:Key} {b:Nat} {K:Key} (h:κ b=some (.key K)) (hn:¬ (K.1=A.1∧A.2 <+:K.2)):rekey κ A B b=some (.key K):=by
 simp only[rekey,h];rw[if_neg hn]
theorem rekey_some {κ:Gh} {A B:Key} {b:Nat} {g:G} (h:rekey κ A B b=some g):∃ g',κ b=some g':=by
 unfold rekey at h
 split at h
 ·exact ⟨_,by assumption⟩
 ·exact ⟨_,h⟩
theorem rekey_immMap (w:World) (κ:Gh) (A B:Key):ImmMap w w κ (rekey κ A B):=fun _ h=>⟨rekey_imm h,rfl⟩
theorem rekey_keyMap (w:World) (κ:Gh) (A B:Key):KeyMap w w κ (rekey κ A B) (some A) (some B):=⟨B,rfl,fun _ _ h=>⟨rekey_in h,rfl⟩⟩
theorem rekey_keyMap_out (w:World) (κ:Gh) {A B K:Key} (hn:K.1≠A.1):KeyMap w w κ (rekey κ A B) (some K) (some K):=⟨K,rfl,fun _ _ h=>⟨rekey_out h fun e=>hn e.1,rfl⟩⟩
theorem rekey_keyMap_cell (w:World) (κ:Gh) {id r c r' c':Nat} {B:Key} (hn:(r,c)≠(r',c')):KeyMap w w κ (rekey κ (id,[(r,c)]) B) (some (id,[(r',c')])) (some (id,[(r',c')])):=
 ⟨_,rfl,fun q _ h=>⟨rekey_out h fun e=>by
  obtain ⟨t,ht⟩:=e.2
  simp at ht
  exact hn (by rw[Prod.mk.injEq];exact ht.1),rfl⟩⟩
theorem rekey_fresh {κ:Gh} {A B:Key} {n n':Nat} (hf:∀ b id p,κ b=some (.key (id,p))→id < n) (hn:n≤n') (hB:B.1 < n'):∀ b id p,rekey κ A B b=some (.key (id,p))→id < n':=by
 intro b id p hb
 unfold rekey at hb
 split at hb
 ·rename_i K hK
  split at hb
  ·injection hb with hb;injection hb with hb;injection hb with hb _;omega
  ·injection hb with hb;injection hb with hb;subst hb
   have:=hf b _ _ hK;omega
 ·have:=hf b _ _ hb;omega
theorem rekey_stp (w:World) (κ:Gh) (A B:Key):Stp κ w (rekey κ A B) w:=⟨rfl,rfl,rfl,Nat.le_refl _,fun _ _ _=>rfl,fun _ h=>rekey_imm h,fun _ _ h=>rekey_none h,fun _ C _ _ h=>⟨C,h,rfl⟩⟩
end Go.Proofs.VI
end
section
set_option linter.unusedVariables false
set_option linter.unusedSimpArgs false
namespace Go.Proofs.VI
open Go
def constB (v:AV) (u:Value):Bool:=
 match v,u with
 | .int k n,.int k' n'=>decide (k=k')&&decide (n=n')
 | .ff,.bool false=>true
 | .str s,.string s'=>decide (s.data.toList=[])&&decide (s'.data.toList=[])
 | .nils,.slice none 0 0=>true
 | .nilp,.pointer none=>true
 | .nili,.nilIface=>true
 | .und,_=>true
 | _,_=>false
def constsB:List AV→List Value→Bool
 | [],[]=>true
 | v::l,u::r=>constB v u&&constsB l r
 | _,_=>false
theorem str_empty {s s':ByteArray} (h:s.data.toList=[]) (h':s'.data.toList=[]):s'=s:=by
 cases s with | mk d=>cases s' with | mk d'=>
  have e1:d= #[]:=by simpa using h
  have e2:d'= #[]:=by simpa using h'
  rw[e1,e2]
theorem constB_rel {v:AV} {u:Value} (h:constB v u=true) (w:World) (κ:Gh) (L:AV→Value→Prop) (K:Option Key):relV w κ L K v u:=by
 unfold constB at h
 split at h
 ·simp only[Bool.and_eq_true,decide_eq_true_eq] at h
  obtain ⟨rfl,rfl⟩:=h
  rfl
 ·rfl
 ·simp only[Bool.and_eq_true,decide_eq_true_eq] at h
  rw[str_empty h.1 h.2];rfl
 ·exact ⟨none,rfl⟩
 ·rfl
 ·rfl
 ·trivial
 ·cases h
def flatT (P:Program) (e:EK) (t:TypeId):Prop:=match e with
 | .int=>∃ k,P.underlying t=some (.int k)
 | .str=>P.underlying t=some .string
 | .bool=>P.underlying t=some .bool
def flatF (P:Program) (c:Nat) (es:List EK) (fs:List Field):Prop:=match es with
 | []=>fs=[]
 | e::es=>match fs with
  | []=>False
  | f::fs=>f.name≠ "_" ∧f.offset=c∧flatT P e f.type∧flatF P (c+1) es fs
structure TOk (P:Program) (tt:TypeId→Option TI):Prop where
 info:∀ t i,tt t=some i→∃ f z,P.info? t=some f∧f.size=i.size∧f.bytes=i.bytes∧f.zero=some z∧constsB i.zero z.cells.toList=true∧i.zero.length=i.size∧i.size≠0∧i.bytes≠0∧z.cells.size=i.size
 flat:∀ t i,tt t=some i→i.eq≠ []→P.stoodInHeld t=false∧P.eqGuardType P.depth t=false∧∃ fields,P.underlying t=some (.struct fields)∧flatF P 0 i.eq fields.toList
 kind:∀ t i,tt t=some i→match i.kind with
  | .int k=>P.underlying t=some (.int k)
  | .bool=>P.underlying t=some .bool
  | .str=>P.underlying t=some .string
  | .slice e=>P.underlying t=some (.slice e)
  | .struct fs=>∃ fields,P.underlying t=some (.struct fields)∧fields.toList.map (fun f=>(f.offset,f.type))=fs∧∀ f∈fields.toList,∃ fi,P.info? f.type=some fi∧fi.size≠0
  | .ptr=>∃ e,P.underlying t=some (.pointer e)
  | .func=>∃ a b c,P.underlying t=some (.func a b c)
  | .other=>P.underlying t≠none∧(∀ f,P.underlying t≠some (.struct f))∧(∀ n e,P.underlying t≠some (.array n e))
section
variable {P:Program} {w:World} {κ:Gh} {m:Nat→Addr} {n:Nat} {s:Slots} {h:Heap} {a:Act}
def Post (K:Bool→Nat→AV→Heap→Prop) (w:World) (κ:Gh) (m:Nat→Addr) (n:Nat) (s:Slots) (h:Heap) (a:Act) (dst:Option Nat):Act→World→Prop:=fun a' w'=>
 ∃ f n' v h' κ' m' u,K f n' v h'∧n≤n'∧a'=a.put dst u∧relV w' κ' (liveV w' κ' m' n' h') none v u∧Rel w' κ' m' n' s h' a∧Stp κ w κ' w'∧(f=false→∀ j,j < n→h' j=h j)∧(∀ j,j < n→h' j≠none→m' j=m j)∧∀ v u,liveV w κ m n h v u→liveV w' κ' m' n' h' v u
def OpOk (P:Program) (o:Oper) (K:Bool→Nat→AV→Heap→Prop) (w:World) (κ:Gh) (m:Nat→Addr) (n:Nat) (s:Slots) (h:Heap) (a:Act):Prop:=
 o.wp P a w (Post K w κ m n s h a o.dst) (fun _ _ _=>False)
theorem OpOk.value {o:Oper} {K:Bool→Nat→AV→Heap→Prop} (R:Rel w κ m n s h a) {v:AV} {u:Value} (hr:(execOp a.eval o).run P w= .ok (.value u) w)
  (hk:K false n v h) (hv:relV w κ (liveV w κ m n h) none v u):OpOk P o K w κ m n s h a:=by
 unfold OpOk Oper.wp
 rw[hr]
 exact ⟨false,n,v,h,κ,m,u,hk,Nat.le_refl _,rfl,hv,R,Stp.refl _ _,fun _ _ _=>rfl,fun _ _ _=>rfl,fun _ _ h=>h⟩
theorem cst1_rel {u:Value} {v:AV} (hc:cst1 u=some v) (L:AV→Value→Prop) (K:Option Key):relV w κ L K v u:=by
 unfold cst1 at hc
 split at hc<;>first | (injection hc with hc;subst hc;first | rfl | exact ⟨none,rfl⟩) | cases hc
theorem cstL_rel {L:AV→Value→Prop} {K:Option Key}:∀ {us:List Value} {vs:List AV} {c:Nat},cstL us=some vs→relL w κ L K c vs us
 | [],vs,c,h=>by simp[cstL] at h;subst h;rfl
 | u::us,vs,c,h=>by
  simp only[cstL] at h
  split at h
  ·rename_i a l h1 h2
   injection h with h;subst h
   exact ⟨u,us,rfl,cst1_rel h1 _ _,cstL_rel h2⟩
  ·cases h
theorem cst_rel {u:Value} {v:AV} (hc:cst u=some v) (L:AV→Value→Prop) (K:Option Key):relV w κ L K v u:=by
 unfold cst at hc
 split at hc
 ·split at hc
  ·rename_i cs _ l hl
   injection hc with hc;subst hc
   exact ⟨cs.toList,by simp,cstL_rel hl⟩
  ·cases hc
 ·exact cst1_rel hc _ _
theorem opv_sound {x:Operand} {K:AV→Prop} (R:Rel w κ m n s h a) (hx:opv s x K):∃ v,K v∧relV w κ (liveV w κ m n h) none v (a.eval x):=by
 cases x with
 | tmp t=>
  simp only[opv] at hx
  split at hx
  ·rename_i v hv
   exact ⟨v,hx,(R.slot t v hv).2⟩
  ·exact hx.elim
 | const c=>
  simp only[opv] at hx
  split at hx
  ·rename_i v hv
   exact ⟨v,hx,cst_rel hv _ _⟩
  ·exact hx.elim
 | func f=>exact ⟨_,hx,[],rfl,rfl⟩
 | global g=>exact hx.elim
theorem opvs_sound {K:List AV→Prop} (R:Rel w κ m n s h a):∀ {l:List Operand} {K:List AV→Prop},opvs s l K→∃ vs,K vs∧∀ c,relL w κ (liveV w κ m n h) none c vs (l.map a.eval)
 | [],K,hx=>⟨[],hx,fun _=>rfl⟩
 | x::l,K,hx=>by
  obtain ⟨v,h1,h2⟩:=opv_sound R hx
  obtain ⟨vs,h3,h4⟩:=opvs_sound (K:=K) R h1
  exact ⟨v::vs,h3,fun c=>⟨_,_,rfl,h2,h4 _⟩⟩
theorem br_sound {K:AV→Prop} {b:AV} {T F:Prop} {u:Value} {L:AV→Value→Prop} (hb:relV w κ L none b u) (h:br b T F):∃ c,u= .bool c∧(bif c then T else F):=by
 cases b<;>simp only[br] at h
 case bool b=>
  refine ⟨b,hb,?_⟩
  cases b with
  | true=>exact h.1 rfl
  | false=>exact h.2 rfl
 case tt=>exact ⟨true,hb,h⟩
 case ff=>exact ⟨false,hb,h⟩
theorem ok_move {o:Oper} {x:Operand} {K:Bool→Nat→AV→Heap→Prop} (R:Rel w κ m n s h a) (ho:o.op= .move x∨o.op= .assign x) (hx:opv s x fun v=>K false n v h):OpOk P o K w κ m n s h a:=by
 obtain ⟨v,h1,h2⟩:=opv_sound R hx
 refine OpOk.value R (u:=a.eval x) ?_ h1 h2
 unfold execOp
 rcases ho with ho | ho<;>rw[ho]<;>rfl
theorem ok_pick {o:Oper} {c x y:Operand} {K:Bool→Nat→AV→Heap→Prop} (R:Rel w κ m n s h a) (ho:o.op= .pick c x y)
  (hx:opv s c fun v=>br v (opv s x fun v=>K false n v h) (opv s y fun v=>K false n v h)):OpOk P o K w κ m n s h a:=by
 obtain ⟨v,h1,h2⟩:=opv_sound R hx
 obtain ⟨b,hb,h3⟩:=br_sound (K:=fun _=>True) h2 h1
 cases b with
 | true=>
  obtain ⟨v,h4,h5⟩:=opv_sound R h3
  refine OpOk.value R (u:=a.eval x) ?_ h4 h5
  unfold execOp
  rw[ho];dsimp only;rw[hb];rfl
 | false=>
  obtain ⟨v,h4,h5⟩:=opv_sound R h3
  refine OpOk.value R (u:=a.eval y) ?_ h4 h5
  unfold execOp
  rw[ho];dsimp only;rw[hb];rfl
theorem neg_sound {v:AV} {u:Value} {K:AV→Prop} {L:AV→Value→Prop} (hv:relV w κ L none v u) (h:neg v K):∃ b v',u= .bool b∧K v'∧∀ L' K',relV w κ L' K' v' (.bool !b):=by
 cases v<;>simp only[neg] at h
 case bool b=>exact ⟨b,_,hv,h,fun _ _=>rfl⟩
 case tt=>exact ⟨true,_,hv,h,fun _ _=>rfl⟩
 case ff=>exact ⟨false,_,hv,h,fun _ _=>rfl⟩
theorem ok_unOp {o:Oper} {op:UnOp} {t:TypeId} {x:Operand} {K:Bool→Nat→AV→Heap→Prop} (R:Rel w κ m n s h a) (ho:o.op= .unOp op t x)
  (hx:opv s x fun v=>match op with
   | .not=>neg v fun v=>K false n v h
   | .neg=>(match v with | .int k a=>K false n (.int k (k.wrap (-a))) h | _=>False)
   | _=>False):OpOk P o K w κ m n s h a:=by
 obtain ⟨v,h1,h2⟩:=opv_sound R hx
 cases op<;>simp only at h1
 case not=>
  obtain ⟨b,v',hu,hk,hr⟩:=neg_sound h2 h1
  refine OpOk.value R (u:= .bool !b) ?_ hk (hr _ _)
  unfold execOp
  rw[ho];dsimp only;rw[hu];rfl
 case neg=>
  cases v<;>simp only at h1
  case int k i=>
   refine OpOk.value R (u:= .int k (k.wrap (-i))) ?_ h1 rfl
   have hu:a.eval x= .int k i:=h2
   unfold execOp
   rw[ho];dsimp only;rw[hu]
   show Result.ok _ _=_
   rw[Int.zero_sub]
theorem beqD (i j:Int):(i == j)=decide (i=j):=by by_cases e:i=j<;>simp[e]
theorem run_bin {o:Oper} {op:BinOp} {t t':TypeId} {x y:Operand} (ho:o.op= .binOp op t x y t') {u v z:Value} (hu:a.eval x=u) (hv:a.eval y=v)
  (hg:(eqGuard op t x y u v).run P w= .ok () w) (hb:(binOp op t u v).run P w= .ok z w):(execOp a.eval o).run P w= .ok (.value z) w:=by
 unfold execOp
 rw[ho];dsimp only;rw[hu,hv]
 simp only[Sem.run_bind,hg,hb,Result.andThen_ok,Sem.run_pure]
theorem guard_plain {op:BinOp} {t:TypeId} {x y:Operand} {u v:Value} (h1:u≠ .nilIface) (h2:∀ c,u≠ .agg c):(eqGuard op t x y u v).run P w= .ok () w:=by
 unfold eqGuard
 cases op<;>simp<;>(split<;>first | (exact absurd rfl h1) | (exact absurd rfl (h2 _)) | rfl)
theorem ok_int {o:Oper} {op:BinOp} {t t':TypeId} {x y:Operand} {K:Bool→Nat→AV→Heap→Prop} (R:Rel w κ m n s h a) (ho:o.op= .binOp op t x y t') {k k':IntKind} {i j:Int}
  (hi:a.eval x= .int k i) (hj:a.eval y= .int k' j) (hkk:k=k') (hk:binInt op k i j fun v=>K false n v h):OpOk P o K w κ m n s h a:=by
 subst hkk
 have key:∀ v u,(binOp op t (.int k i) (.int k j)).run P w= .ok u w→K false n v h→relV w κ (liveV w κ m n h) none v u→OpOk P o K w κ m n s h a:=fun v u hr hk hv=>
  OpOk.value R (run_bin ho hi hj (guard_plain (by simp) (by simp)) hr) hk hv
 cases op<;>simp only[binInt,cmpInt] at hk
 case add=>exact key _ _ (by simp[binOp,Op.intArith]) hk rfl
 case sub=>exact key _ _ (by simp[binOp,Op.intArith]) hk rfl
 case mul=>exact key _ _ (by simp[binOp,Op.intArith]) hk rfl
 case quo=>exact key _ _ (by simp[binOp,Op.intDiv,hk.1]) hk.2 rfl
 case rem=>exact key _ _ (by simp[binOp,Op.intDiv,hk.1]) hk.2 rfl
 case and=>exact key _ _ (by simp[binOp,Op.intBits,bitsI]) hk rfl
 case or=>exact key _ _ (by simp[binOp,Op.intBits,bitsI]) hk rfl
 case xor=>exact key _ _ (by simp[binOp,Op.intBits,bitsI]) hk rfl
 case andNot=>exact key _ _ (by simp[binOp,Op.intBits,bitsI]) hk rfl
 case eql=>exact key _ (.bool (i == j)) (by simp[binOp,Op.intCmp]) hk (by simp only[relV];rw[beqD])
 case neq=>exact key _ (.bool (i != j)) (by simp[binOp,Op.intCmp]) hk (by simp only[relV,bne];rw[beqD];by_cases e:i=j<;>simp[e])
 case lss=>exact key _ (.bool (decide (i < j))) (by simp[binOp,Op.intCmp]) hk rfl
 case leq=>exact key _ (.bool (decide (i≤j))) (by simp[binOp,Op.intCmp]) hk rfl
 case gtr=>exact key _ (.bool (decide (i>j))) (by simp[binOp,Op.intCmp]) hk rfl
 case geq=>exact key _ (.bool (decide (i≥j))) (by simp[binOp,Op.intCmp]) hk rfl
theorem ok_shift {o:Oper} {op:BinOp} {t t':TypeId} {x y:Operand} {K:Bool→Nat→AV→Heap→Prop} (R:Rel w κ m n s h a) (ho:o.op= .binOp op t x y t') {k k':IntKind} {i j r:Int}
  (hi:a.eval x= .int k i) (hj:a.eval y= .int k' j) (h0:0≤j) (hop:(op= .shl∧r=shlI k i j)∨(op= .shr∧r=shrI k i j)) (hk:K false n (.int k r) h):OpOk P o K w κ m n s h a:=by
 have hneg:¬ j < 0:=by omega
 rcases hop with ⟨e,e2⟩ | ⟨e,e2⟩
 ·subst e;subst e2
  exact OpOk.value R (run_bin ho hi hj (guard_plain (by simp) (by simp)) (by simp[binOp,Op.shift,hneg,shlI])) hk rfl
 ·subst e;subst e2
  exact OpOk.value R (run_bin ho hi hj (guard_plain (by simp) (by simp)) (by simp[binOp,Op.shift,hneg,shrI])) hk rfl
theorem toList_inj {x y:ByteArray}:x.toList=y.toList↔x=y:=by
 constructor
 ·intro e
  rw[ByteArray.toList_eq,ByteArray.toList_eq] at e
  cases x;cases y
  simpa using e
 ·rintro rfl;rfl
theorem beqS (x y:ByteArray):(x.toList == y.toList)=decide (x=y):=by
 by_cases e:x=y
 ·subst e;simp
 ·simp[e,toList_inj]
theorem ok_str {o:Oper} {op:BinOp} {t t':TypeId} {x y:Operand} {K:Bool→Nat→AV→Heap→Prop} (R:Rel w κ m n s h a) (ho:o.op= .binOp op t x y t') {i j:ByteArray}
  (hi:a.eval x= .string i) (hj:a.eval y= .string j) (hk:binStr op i j fun v=>K false n v h):OpOk P o K w κ m n s h a:=by
 have key:∀ v u,(binOp op t (.string i) (.string j)).run P w= .ok u w→K false n v h→relV w κ (liveV w κ m n h) none v u→OpOk P o K w κ m n s h a:=fun v u hr hk hv=>
  OpOk.value R (run_bin ho hi hj (guard_plain (by simp) (by simp)) hr) hk hv
 cases op<;>simp only[binStr] at hk
 case add=>
  refine key _ (.string (i++j)) ?_ hk.2 rfl
  have:¬ (((i.size+j.size:Nat):Int)>IntKind.i64.max):=by
   show ¬ (((i.size+j.size:Nat):Int)>9223372036854775807)
   have:=hk.1
   omega
  simp only[binOp,Op.stringOp]
  rw[if_neg this];rfl
 case eql=>exact key _ (.bool (i.toList == j.toList)) (by simp[binOp,Op.stringOp]) hk (by simp only[relV];rw[beqS])
 case neq=>exact key _ (.bool (!(i.toList == j.toList))) (by simp[binOp,Op.stringOp]) hk (by simp only[relV];rw[beqS];by_cases e:i=j<;>simp[e])
 case lss=>exact key _ (.bool (Op.bytesLess i.toList j.toList)) (by simp[binOp,Op.stringOp]) hk rfl
 case geq=>exact key _ (.bool (!Op.bytesLess i.toList j.toList)) (by simp[binOp,Op.stringOp]) hk rfl
 case leq=>exact key _ (.bool (Op.bytesLess i.toList j.toList||i.toList == j.toList)) (by simp[binOp,Op.stringOp]) hk (by simp only[relV];rw[beqS])
 case gtr=>exact key _ (.bool (!(Op.bytesLess i.toList j.toList||i.toList == j.toList))) (by simp[binOp,Op.stringOp]) hk (by simp only[relV];rw[beqS])
end
end Go.Proofs.VI
end
section
set_option linter.unusedVariables false
set_option linter.unusedSimpArgs false
namespace Go.Proofs.VI
open Go
section
variable {P:Program} {w:World} {κ:Gh} {m:Nat→Addr} {n:Nat} {s:Slots} {h:Heap} {a:Act}
theorem force_eq (v:AV) (K:AV→Prop):force v K=K v:=by cases v<;>rfl
theorem forceL_eq (l:List AV):∀ (K:List AV→Prop),forceL l K=K l:=by
 induction l with
 | nil=>intro K;rfl
 | cons v l ih=>intro K;simp only[forceL,force_eq,ih]
theorem takeN_sound:∀ {row:List AV} {c n:Nat} {K:List AV→Prop},takeN row c n K→∃ cs,K cs∧cs.length=n∧∀ i v,cs[i]?=some v→row[c+i]?=some v
 | row,c+1,n,K,hk=>by
  cases row with
  | nil=>exact (show False from hk).elim
  | cons x row=>
   obtain ⟨cs,h1,h2,h3⟩:=takeN_sound (row:=row) (c:=c) (n:=n) (K:=K) hk
   exact ⟨cs,h1,h2,fun i v hv=>by rw[show c+1+i=(c+i)+1 by omega,List.getElem?_cons_succ];exact h3 i v hv⟩
 | row,0,0,K,hk=>⟨[],by simpa [takeN] using hk,rfl,fun i v hv=>by simp at hv⟩
 | row,0,n+1,K,hk=>by
  cases row with
  | nil=>exact (show False from hk).elim
  | cons x row=>
   have hk:force x fun v=>takeN row 0 n fun l=>K (v::l):=hk
   rw[force_eq] at hk
   obtain ⟨cs,h1,h2,h3⟩:=takeN_sound (row:=row) (c:=0) (n:=n) hk
   refine ⟨x::cs,h1,by simp[h2],fun i v hv=>?_⟩
   cases i with
   | zero=>simpa using hv
   | succ i=>simpa [Nat.zero_add] using h3 i v (by simpa using hv)
def Cells (w:World) (b o:Nat) (vs:List Value):Prop:=∀ j u,vs[j]?=some u→w.cell? ⟨b,o+j,none⟩=some u
theorem cell_of_heap {b:Nat} {C:Array Value} {t:TypeId} {fr:Nat×Nat} (hb:w.heap[b]?=some (.cells C t fr)) (o:Nat):w.cell? ⟨b,o,none⟩=C[o]?:=by
 simp[World.cell?,hb]
theorem add_plain (b o j:Nat):(⟨b,o,none⟩:Addr).add j=⟨b,o+j,none⟩:=by
 unfold Addr.add
 split
 ·rename_i e;subst e;rfl
 ·rfl
variable {tt:TypeId→Option TI}
theorem run_und {t:TypeId} {d:TypeDesc} (h:P.underlying t=some d) (w:World):(underlying t).run P w= .ok d w:=by simp[underlying,h]
theorem run_inf {t:TypeId} {f:TypeInfo} (h:P.info? t=some f) (w:World):(typeInfo t).run P w= .ok f w:=by simp[typeInfo,h]
theorem run_siz (T:TOk P tt) {t:TypeId} {i:TI} (ht:tt t=some i) (w:World):(sizeOf t).run P w= .ok i.size w:=by
 obtain ⟨f,z,h1,h2,_⟩:=T.info t i ht
 simp[sizeOf,run_inf h1,h2]
theorem run_agg (T:TOk P tt) {t:TypeId} {i:TI} (ht:tt t=some i) (w:World):(isAgg t).run P w= .ok (isStruct i) w:=by
 have hk:=T.kind t i ht
 unfold isStruct isAgg
 split at hk
 ·rename_i hi;simp[run_und hk,hi]
 ·rename_i hi;simp[run_und hk,hi]
 ·rename_i hi;simp[run_und hk,hi]
 ·rename_i hi;simp[run_und hk,hi]
 ·rename_i hi;obtain ⟨fs,hk,_⟩:=hk;simp[run_und hk,hi]
 ·rename_i hi;obtain ⟨e,hk⟩:=hk;simp[run_und hk,hi]
 ·rename_i hi;obtain ⟨x,y,z,hk⟩:=hk;simp[run_und hk,hi]
 ·rename_i hi
  obtain ⟨h1,h2,h3⟩:=hk
  cases hu:P.underlying t with
  | none=>exact absurd hu h1
  | some d=>
   simp only[Sem.run_bind,run_und hu,Result.andThen_ok,hi]
   cases d<;>first | rfl | exact absurd hu (h2 _) | exact absurd hu (h3 _ _)
theorem run_loadVar (T:TOk P tt) {t:TypeId} {i:TI} (ht:tt t=some i) {b o:Nat} {vs:List Value} (hl:vs.length=i.size) (hc:Cells w b o vs):
  (loadVar t ⟨b,o,none⟩).run P w= .ok (if isStruct i then .agg vs.toArray else vs.getD 0 undef) w:=by
 obtain ⟨f,z,_,_,_,_,_,_,h0,_⟩:=T.info t i ht
 unfold loadVar
 simp only[Sem.run_bind,run_agg T ht,Result.andThen_ok]
 cases hs:isStruct i with
 | true=>
  have h1:(loadCells ⟨b,o,none⟩ i.size).run P w= .ok vs.toArray w:=by
   rw[←hl]
   exact run_loadCells_list (P:=P) (w:=w) ⟨b,o,none⟩ vs fun j v hv=>by rw[add_plain];exact hc j v hv
  simp[run_siz T ht,h1]
 | false=>
  have h1:vs[0]?=some (vs.getD 0 undef):=by
   cases vs with
   | nil=>simp at hl;exact absurd hl.symm h0
   | cons x l=>simp
  have h2:=hc 0 _ h1
  simp[Nat.add_zero] at h2
  simp[h2]
theorem sure (b o:Nat) (w:World):(Instr.sureAddr (.pointer (some ⟨b,o,none⟩))).run P w= .ok ⟨b,o,none⟩ w:=rfl
theorem run_load_op (T:TOk P tt) {o:Oper} {t:TypeId} {x:Operand} (ho:o.op= .load t x) {i:TI} (ht:tt t=some i) {b off:Nat} {vs:List Value} (hx:a.eval x= .pointer (some ⟨b,off,none⟩)) (hl:vs.length=i.size) (hc:Cells w b off vs):
  (execOp a.eval o).run P w= .ok (.value (if isStruct i then .agg vs.toArray else vs.getD 0 undef)) w:=by
 unfold execOp
 rw[ho];dsimp only;rw[hx]
 simp only[Sem.run_bind,Instr.loadAt,sure,Result.andThen_ok,run_loadVar T ht hl hc,Sem.run_pure]
theorem relL_row {K:Option Key} {r:Nat} {C:Array Value}:∀ {cs:List AV} {c o:Nat},relRow w κ K r c cs C o→∃ vs:List Value,vs.length=cs.length∧(∀ j u,vs[j]?=some u→C[o+j]?=some u)∧
  ∀ j v u,cs[j]?=some v→vs[j]?=some u→relV w κ noL (kid K r (c+j)) v u
 | [],c,o,h=>⟨[],rfl,fun j u hj=>by simp at hj,fun j v u hj=>by simp at hj⟩
 | v::cs,c,o,h=>by
  obtain ⟨⟨u,hu,h1⟩,h2⟩:=h
  obtain ⟨vs,h3,h4,h5⟩:=relL_row h2
  refine ⟨u::vs,by simp[h3],fun j x hj=>?_,fun j x y hx hy=>?_⟩
  ·cases j with
   | zero=>simp at hj;subst hj;exact hu
   | succ j=>rw[show o+(j+1)=o+1+j by omega];exact h4 j x (by simpa using hj)
  ·cases j with
   | zero=>simp at hx hy;subst hx;subst hy;exact h1
   | succ j=>rw[show c+(j+1)=c+1+j by omega];exact h5 j x y (by simpa using hx) (by simpa using hy)
theorem relL_mk {L:AV→Value→Prop} {K:Option Key}:∀ {cs:List AV} {vs:List Value} {c:Nat},vs.length=cs.length→(∀ j v u,cs[j]?=some v→vs[j]?=some u→relV w κ L (kid K 0 (c+j)) v u)→relL w κ L K c cs vs
 | [],[],c,_,_=>rfl
 | [],u::vs,c,h,_=>by simp at h
 | v::cs,[],c,h,_=>by simp at h
 | v::cs,u::vs,c,h,hh=>⟨u,vs,rfl,by simpa using hh 0 v u rfl rfl,relL_mk (by simpa using h) fun j x y hx hy=>by
   have:=hh (j+1) x y (by simpa using hx) (by simpa using hy)
   rwa [show c+(j+1)=c+1+j by omega] at this⟩
theorem noL_le {v:AV} {u:Value} {L:AV→Value→Prop} (h:noL v u):L v u:=h.elim
theorem relV_noL {L:AV→Value→Prop} {K:Option Key} {v:AV} {u:Value} (h:relV w κ noL K v u):relV w κ L K v u:=by
 cases K with
 | none=>exact relV_move (fun b hb=>⟨hb,rfl⟩) (fun _ _ h=>noL_le h) v none none u .none_ h
 | some K=>exact relV_move (fun b hb=>⟨hb,rfl⟩) (fun _ _ h=>noL_le h) v (some K) (some K) u ⟨K,rfl,fun q b hb=>⟨hb,rfl⟩⟩ h
theorem ofCells_sound {t:TI} {cs:List AV} {vs:List Value} {K:AV→Prop} {L:AV→Value→Prop} (hl:vs.length=cs.length) (hr:∀ (j:Nat) (v:AV) (u:Value),cs[j]?=some v→vs[j]?=some u→relV w κ L none v u) (hk:ofCells t cs K):
  ∃ v,K v∧relV w κ L none v (if isStruct t then .agg vs.toArray else vs.getD 0 undef):=by
 unfold ofCells at hk
 cases hs:isStruct t with
 | true=>
  rw[hs] at hk
  exact ⟨_,hk,vs,rfl,relL_mk hl fun j v u hv hu=>by simpa [kid] using hr j v u hv hu⟩
 | false=>
  rw[hs] at hk
  simp only[cond_false] at hk
  split at hk
  ·rename_i v
   match vs,hl with
   | [u],_=>exact ⟨v,hk,by simpa using hr 0 v u rfl rfl⟩
  ·exact hk.elim
theorem ok_load_rp (T:TOk P tt) {o:Oper} {t:TypeId} {x:Operand} {K:Bool→Nat→AV→Heap→Prop} (R:Rel w κ m n s h a) (ho:o.op= .load t x) {i:TI} (ht:tt t=some i) {row:List AV} {c:Nat}
  (hx:relV w κ (liveV w κ m n h) none (.rp row c) (a.eval x)) (hk:takeN row c i.size fun cs=>ofCells i cs fun v=>K false n v h):OpOk P o K w κ m n s h a:=by
 obtain ⟨b,off,C,t0,fr,hp,hb,hκ,hr⟩:=hx
 obtain ⟨cs,hk,hl,hg⟩:=takeN_sound hk
 obtain ⟨us,h1,h2,h3⟩:=relL_row hr
 let vs:List Value:=(us.drop c).take i.size
 have hvs:∀ j u,vs[j]?=some u→us[c+j]?=some u:=fun j u hj=>by
  have hj2:j < i.size:=by
   have:=(List.getElem?_eq_some_iff.1 hj).1
   simp[vs] at this;omega
  simp only[vs,List.getElem?_take] at hj
  rw[if_pos hj2,List.getElem?_drop] at hj
  exact hj
 have hcs:i.size=0∨c+i.size≤row.length:=by
  cases hz:i.size with
  | zero=>exact .inl rfl
  | succ k=>
   right
   have:cs[k]?=some cs[k]:=List.getElem?_eq_getElem (by omega)
   have:=(List.getElem?_eq_some_iff.1 (hg k _ this)).1
   omega
 have hlen:vs.length=i.size:=by
  simp[vs,h1]
  omega
 obtain ⟨v,hv,hrel⟩:=ofCells_sound (w:=w) (κ:=κ) (t:=i) (vs:=vs) (L:=liveV w κ m n h) (by omega) (fun j v u hv hu=>relV_noL (by
  have:=h3 (c+j) v u (hg j v hv) (hvs j u hu)
  simpa [kid] using this)) hk
 refine OpOk.value R (run_load_op T ho ht hp hlen fun j u hj=>?_) hv hrel
 rw[cell_of_heap hb]
 rw[show off+c+j=off+(c+j) by omega]
 exact h2 _ _ (hvs j u hj)
end
end Go.Proofs.VI
end
section
set_option linter.unusedVariables false
set_option linter.unusedSimpArgs false
namespace Go.Proofs.VI
open Go
def holesIn:Blk→List Hole
 | .box _ hs=>hs
 | .rows _ _ hs=>hs
def withHoles (b:Blk) (hs:List Hole):Blk:=match b with
 | .box row _=> .box row hs
 | .rows k rs _=> .rows k rs hs
def cellAt (b:Blk) (r c:Nat):Option AV:=match b with
 | .box row _=>if r=0 then row[c]? else none
 | .rows _ rs _=>match rs[r]? with | some row=>row[c]? | none=>none
def cellOff (b:Blk) (r c:Nat):Nat:=match b with
 | .box _ _=>c
 | .rows k _ _=>r*k+c
theorem shp_withHoles (b:Blk) (hs:List Hole):shp (some (withHoles b hs))=shp (some b):=by cases b<;>rfl
section
variable {P:Program} {w w':World} {κ κ':Gh} {m m':Nat→Addr} {n:Nat} {s:Slots} {h:Heap} {a:Act} {L L':AV→Value→Prop}
theorem _root_.Go.Proofs.VI.Stp.immMap' {κ κ':Gh} {w:World} (h:Stp κ w κ' w):ImmMap w w κ κ':=fun b hb=>⟨h.imm b hb,rfl⟩
theorem relBlk_map {id:Nat} {B:Blk} {hs':List Hole} (hB:relBlk w κ m L id B) (hm:m' id=m id)
  (hk:∀ x,κ x=some (.key (id,[]))→κ' x=some (.key (id,[]))∧w'.heap[x]?=w.heap[x]?)
  (h0:∀ row hs,B= .box row hs→(∀ x∈hs,x.row=0)→∀ x∈hs',x.row=0)
  (hc:∀ r c v u,cellAt B r c=some v→w.cell? ⟨(m id).block,(m id).off+cellOff B r c,none⟩=some u→relCell w κ L id (holesIn B) r c v u→relCell w' κ' L' id hs' r c v u):
  relBlk w' κ' m' L' id (withHoles B hs'):=by
 cases B with
 | box row hs=>
  obtain ⟨g0,h1,C,t,fr,h2,h3,h4,h5⟩:=hB
  refine ⟨h0 row hs rfl g0,by rw[hm];exact h1,C,t,fr,by rw[hm];exact (hk _ h4).2.trans h2,h3,by rw[hm];exact (hk _ h4).1,?_⟩
  rw[hm]
  refine relHRow_mk fun i v hv=>?_
  obtain ⟨u,hu,hr⟩:=relHRow_get h5 hv
  rw[Nat.zero_add] at hr⊢
  exact ⟨u,hu,hc 0 i v u (by simpa [cellAt] using hv) (by rw[cell_of_heap h2];exact hu) hr⟩
 | rows k rs hs=>
  rcases hB with g | ⟨h1,C,t,fr,h2,h3,h4,h5⟩
  ·exact .inl g
  ·refine .inr ⟨by rw[hm];exact h1,C,t,fr,by rw[hm];exact (hk _ h4).2.trans h2,h3,by rw[hm];exact (hk _ h4).1,?_⟩
   rw[hm]
   refine relHRs_mk fun i row hrow=>?_
   obtain ⟨g1,g2⟩:=relHRs_get h5 hrow
   refine ⟨g1,relHRow_mk fun j v hv=>?_⟩
   obtain ⟨u,hu,hr⟩:=relHRow_get g2 hv
   rw[Nat.zero_add,Nat.zero_add] at hr⊢
   refine ⟨u,hu,hc i j v u (by simp[cellAt,hrow,hv]) ?_ hr⟩
   rw[cell_of_heap h2]
   show C[(m id).off+(i*k+j)]?=some u
   rw[show (m id).off+(i*k+j)=(m id).off+i*k+j by omega];exact hu
theorem relBlk_cell {id:Nat} {B:Blk} (hB:relBlk w κ m L id B) {r c:Nat} {v:AV} (hv:cellAt B r c=some v):
  ∃ u,w.cell? ⟨(m id).block,(m id).off+cellOff B r c,none⟩=some u∧relCell w κ L id (holesIn B) r c v u:=by
 cases B with
 | box row hs=>
  obtain ⟨g0,h1,C,t,fr,h2,h3,h4,h5⟩:=hB
  simp only[cellAt] at hv
  split at hv
  ·rename_i e;subst e
   obtain ⟨u,hu,hr⟩:=relHRow_get h5 hv
   rw[Nat.zero_add] at hr
   exact ⟨u,by rw[cell_of_heap h2];exact hu,hr⟩
  ·cases hv
 | rows k rs hs=>
  simp only[cellAt] at hv
  split at hv
  ·rename_i row hrow
   rcases hB with g | ⟨h1,C,t,fr,h2,h3,h4,h5⟩
   ·subst g;simp at hrow
   ·obtain ⟨g1,g2⟩:=relHRs_get h5 hrow
    obtain ⟨u,hu,hr⟩:=relHRow_get g2 hv
    rw[Nat.zero_add,Nat.zero_add] at hr
    refine ⟨u,?_,hr⟩
    rw[cell_of_heap h2]
    show C[(m id).off+(r*k+c)]?=some u
    rw[show (m id).off+(r*k+c)=(m id).off+r*k+c by omega];exact hu
  ·cases hv
theorem findHole_cons (x:Hole) (hs:List Hole) (r c:Nat):findHole (x::hs) r c=if x.row=r∧x.cell=c then some x.id else findHole hs r c:=by
 unfold findHole
 rw[List.find?_cons]
 by_cases e:x.row=r∧x.cell=c
 ·rw[if_pos e];simp[e.1,e.2]
 ·rw[if_neg e]
  have:(x.row == r&&x.cell == c)=false:=by
   rw[Bool.and_eq_false_iff]
   by_cases e1:x.row=r
   ·right;simpa using fun e2=>e ⟨e1,e2⟩
   ·left;simpa using e1
  rw[this]
theorem open1 (R:Rel w κ m n s h a) {id:Nat} {B:Blk} (hb:h id=some B) {r c k:Nat} {rs:List (List AV)} (hv:cellAt B r c=some (.ow k rs)) (hf:findHole (holesIn B) r c=none):
  ∃ κ' m',Rel w κ' m' (n+1) s (upd (upd h n (some (.rows k rs []))) id (some (withHoles B (⟨r,c,n⟩::holesIn B)))) a∧Stp κ w κ' w∧(∀ j,j < n→m' j=m j)∧
   (∀ v u,liveV w κ m n h v u→liveV w κ' m' (n+1) (upd (upd h n (some (.rows k rs []))) id (some (withHoles B (⟨r,c,n⟩::holesIn B)))) v u)∧
   (∀ u,w.cell? ⟨(m id).block,(m id).off+cellOff B r c,none⟩=some u→liveV w κ' m' (n+1) (upd (upd h n (some (.rows k rs []))) id (some (withHoles B (⟨r,c,n⟩::holesIn B)))) (.own n) u):=by
 obtain ⟨hid,hB⟩:=R.blk id B hb
 obtain ⟨u,hu,hr⟩:=relBlk_cell hB hv
 simp only[relCell,hf] at hr
 obtain ⟨A,cap,hue,hcap,hrest⟩:=hr
 let ad:Addr:=A.getD default
 let κ':=rekey κ (id,[(r,c)]) (n,[])
 let m':Nat→Addr:=fun i=>if i=n then ad else m i
 let h':Heap:=upd (upd h n (some (.rows k rs []))) id (some (withHoles B (⟨r,c,n⟩::holesIn B)))
 have hm:∀ j,j < n→m' j=m j:=fun j hj=>if_neg (by omega)
 have hmn:m' n=ad:=if_pos rfl
 have hh':∀ i,i≠n→i≠id→h' i=h i:=fun i h1 h2=>by simp only[h'];rw[upd_ne _ _ h2,upd_ne _ _ h1]
 have hn':h' n=some (.rows k rs []):=by simp only[h'];rw[upd_ne _ _ (by omega),upd_eq]
 have hid':h' id=some (withHoles B (⟨r,c,n⟩::holesIn B)):=upd_eq _ _ _
 have hkeep:∀ x K,κ x=some (.key (K,[]))→κ' x=some (.key (K,[])):=fun x K hx=>rekey_out hx fun e=>by
  obtain ⟨t,ht⟩:=e.2
  simp at ht
 have hL:∀ v u,liveV w κ m n h v u→liveV w κ' m' (n+1) h' v u:=liveV_move (Nat.le_succ _) fun i hi=>by
  right
  refine ⟨?_,hm i hi,fun x hx=>⟨hkeep x i hx,rfl⟩⟩
  by_cases e:i=id
  ·subst e;rw[hid',hb,shp_withHoles]
  ·rw[hh' i (by omega) e]
 have hnew:∀ u,w.cell? ⟨(m id).block,(m id).off+cellOff B r c,none⟩=some u→liveV w κ' m' (n+1) h' (.own n) u:=fun u' hu'=>by
  rw[hu] at hu';injection hu' with hu';subst hu'
  refine ⟨Nat.lt_succ_self _,⟨A,_,cap,hue⟩,?_⟩
  rw[hn']
  refine ⟨A,cap,hue,hcap,?_⟩
  rcases hrest with h0 | ⟨b,off,C,t,fr,hA,hbb,hfr,hown,hsz,hrs⟩
  ·exact .inl h0
  ·right
   have had:ad=⟨b,off,none⟩:=by simp[ad,hA]
   refine ⟨by rw[hmn,had];exact hA,?_⟩
   rw[hmn,had]
   exact ⟨rfl,C,t,fr,hbb,hfr,rekey_in (q:=[]) (by simpa [owns] using hown),hsz⟩
 refine ⟨κ',m',?_,rekey_stp _ _ _ _,hm,hL,hnew⟩
 refine R.move (rekey_immMap _ _ _ _) hL (fun i b hib=>?_) (fun b g hg=>?_) (rekey_fresh R.fresh (Nat.le_succ _) (Nat.lt_succ_self _))
 ·by_cases e1:i=id
  ·subst e1
   rw[show (upd (upd h n (some (Blk.rows k rs []))) i (some (withHoles B (⟨r,c,n⟩::holesIn B)))) i=h' i from rfl,hid'] at hib
   injection hib with hib;subst hib
   refine ⟨by omega,relBlk_map hB (hm i hid) (fun x hx=>⟨hkeep x i hx,rfl⟩) (fun row0 hs0 eB hx x hm=>?_) (fun r' c' v' u' hv' hu' hc=>?_)⟩
   ·subst eB
    rcases List.mem_cons.1 hm with rfl | hm
    ·simp only[cellAt] at hv;split at hv<;>first | assumption | cases hv
    ·exact hx x hm
   ·unfold relCell
    rw[findHole_cons]
    by_cases e2:r=r'∧c=c'
    ·obtain ⟨rfl,rfl⟩:=e2
     rw[if_pos ⟨rfl,rfl⟩]
     exact hnew _ hu'
    ·rw[if_neg e2]
     unfold relCell at hc
     cases hfh:findHole (holesIn B) r' c' with
     | some j=>rw[hfh] at hc;exact hL _ _ hc
     | none=>
      rw[hfh] at hc
      exact relV_move (rekey_immMap _ _ _ _) (fun _ _ h=>h) _ _ _ _ (rekey_keyMap_cell w κ (fun e=>e2 (by injection e with e1 e2;exact ⟨e1,e2⟩))) hc
  ·rw[show (upd (upd h n (some (Blk.rows k rs []))) id (some (withHoles B (⟨r,c,n⟩::holesIn B)))) i=h' i from rfl] at hib
   by_cases e3:i=n
   ·subst e3
    rw[hn'] at hib
    injection hib with hib;subst hib
    refine ⟨Nat.lt_succ_self _,?_⟩
    rcases hrest with h0 | ⟨b,off,C,t,fr,hA,hbb,hfr,hown,hsz,hrs⟩
    ·left
     cases rs with
     | nil=>rfl
     | cons=>simp at hcap;omega
    ·right
     have had:ad=⟨b,off,none⟩:=by simp[ad,hA]
     rw[hmn,had]
     exact ⟨rfl,C,t,fr,hbb,hfr,rekey_in (q:=[]) (by simpa [owns] using hown),relHRs_plain (rekey_immMap _ _ _ _) (rekey_keyMap _ _ _ _) hrs⟩
   ·rw[hh' i e3 e1] at hib
    obtain ⟨g1,g2⟩:=R.blk i b hib
    exact ⟨by omega,relBlk_move (rekey_immMap _ _ _ _) hL (rekey_keyMap_out w κ (A:=(id,[(r,c)])) (K:=(i,[])) e1) (hm i g1) g2⟩
 ·obtain ⟨g',hg'⟩:=rekey_some hg
  exact R.low b g' hg'
def isBox:Blk→Bool
 | .box _ _=>true
 | .rows _ _ _=>false
theorem holeAt_sound {box:Bool} {r c:Nat} {f:Nat→Prop} {g:Prop}:∀ {hs:List Hole},(box=true→∀ x∈hs,x.row=r)→holeAt hs box r c f g→(∃ i,findHole hs r c=some i∧f i)∨(findHole hs r c=none∧g)
 | [],_,hk=> .inr ⟨rfl,hk⟩
 | x::hs,hx,hk=>by
  rw[findHole_cons]
  simp only[holeAt] at hk
  cases hc:Nat.beq x.cell c with
  | false=>
   have:x.cell≠c:=fun e=>by subst e;rw[beqT] at hc;cases hc
   rw[if_neg fun e=>this e.2]
   rw[hc] at hk
   exact holeAt_sound (fun hb y hy=>hx hb y (List.mem_cons_of_mem _ hy)) hk
  | true=>
   have hce:x.cell=c:=Nat.eq_of_beq_eq_true hc
   rw[hc] at hk
   cases box with
   | true=>
    rw[if_pos ⟨hx rfl x (List.mem_cons_self ..),hce⟩]
    exact .inl ⟨_,rfl,hk⟩
   | false=>
    obtain ⟨b,h1,h2⟩:=hk
    cases b with
    | true=>
     rw[if_pos ⟨h1,hce⟩]
     exact .inl ⟨_,rfl,h2⟩
    | false=>
     rw[if_neg fun e=>h1 e.1]
     exact holeAt_sound (fun hb=>by cases hb) h2
theorem relV_simple {K:Option Key} {v:AV} {u:Value} (hv:relV w κ noL K v u) (h1:∀ k rs,v≠ .ow k rs) (h2:∀ r,v≠ .pb r) (h3:∀ r,v≠ .agg r) (h4:∀ r,v≠ .tup r):relV w κ L none v u:=by
 cases v with
 | ow k rs=>exact absurd rfl (h1 k rs)
 | pb r=>exact absurd rfl (h2 r)
 | agg r=>exact absurd rfl (h3 r)
 | tup r=>exact absurd rfl (h4 r)
 | own i=>exact hv.elim
 | sl i o l=>exact hv.elim
 | ptr i r c=>exact hv.elim
 | fn f cs=>
  obtain ⟨vs,hu,hv⟩:=hv
  exact ⟨vs,hu,relL_move (fun b hb=>⟨hb,rfl⟩) (fun _ _ h=>noL_le h) cs none none 0 vs .none_ hv⟩
 | _=>exact hv
theorem withHoles_with (B:Blk) (x y:List Hole):withHoles (withHoles B x) y=withHoles B y:=by cases B<;>rfl
theorem holesIn_with (B:Blk) (x:List Hole):holesIn (withHoles B x)=x:=by cases B<;>rfl
theorem with_holesIn (B:Blk):withHoles B (holesIn B)=B:=by cases B<;>rfl
theorem cellAt_with (B:Blk) (x:List Hole) (r c:Nat):cellAt (withHoles B x) r c=cellAt B r c:=by cases B<;>rfl
theorem cellOff_with (B:Blk) (x:List Hole) (r c:Nat):cellOff (withHoles B x) r c=cellOff B r c:=by cases B<;>rfl
theorem upd_self {α:Type} {f:Nat→Option α} {i:Nat} {b:Option α} (h:f i=b):upd f i b=f:=by
 funext j
 by_cases e:j=i
 ·subst e;rw[upd_eq,h]
 ·rw[upd_ne _ _ e]
theorem upd_upd {α:Type} (f:Nat→Option α) (i:Nat) (b c:Option α):upd (upd f i b) i c=upd f i c:=by
 funext j
 by_cases e:j=i
 ·subst e;rw[upd_eq,upd_eq]
 ·rw[upd_ne _ _ e,upd_ne _ _ e,upd_ne _ _ e]
theorem upd_comm {α:Type} (f:Nat→Option α) {i j:Nat} (b c:Option α) (h:i≠j):upd (upd f i b) j c=upd (upd f j c) i b:=by
 funext k
 by_cases e:k=i
 ·subst e;rw[upd_ne _ _ h,upd_eq,upd_eq]
 ·by_cases e2:k=j
  ·subst e2;rw[upd_eq,upd_ne _ _ e,upd_eq]
  ·rw[upd_ne _ _ e2,upd_ne _ _ e,upd_ne _ _ e,upd_ne _ _ e2]
theorem openCells_sound {id r:Nat} {B:Blk} (hbox:isBox B=true→r=0):∀ {cs:List AV} {c n:Nat} {hs:List Hole} {h:Heap} {κ:Gh} {m:Nat→Addr} {K:Nat→List AV→List Hole→Heap→Prop},
  id < n→Rel w κ m n s (upd h id (some (withHoles B hs))) a→(∀ i v,cs[i]?=some v→cellAt B r (c+i)=some v)→openCells n h (isBox B) r c cs hs K→
  ∃ n' l hs' h' κ' m',K n' l hs' h'∧n≤n'∧Rel w κ' m' n' s (upd h' id (some (withHoles B hs'))) a∧Stp κ w κ' w∧(∀ j,j < n→m' j=m j)∧(∀ j,j < n→j≠id→h' j=h j)∧
   (∀ v u,liveV w κ m n (upd h id (some (withHoles B hs))) v u→liveV w κ' m' n' (upd h' id (some (withHoles B hs'))) v u)∧l.length=cs.length∧
   (∀ i v u,l[i]?=some v→w.cell? ⟨(m id).block,(m id).off+cellOff B r (c+i),none⟩=some u→relV w κ' (liveV w κ' m' n' (upd h' id (some (withHoles B hs')))) none v u)∧
   hs.length≤hs'.length∧(hs'.length=hs.length→hs'=hs∧n'=n∧h'=h):=by
 intro cs
 induction cs with
 | nil=>
  intro c n hs h κ m K hid R _ hk
  exact ⟨n,[],hs,h,κ,m,hk,Nat.le_refl _,R,Stp.refl _ _,fun _ _=>rfl,fun _ _ _=>rfl,fun _ _ h=>h,rfl,fun i v u hi=>by simp at hi,Nat.le_refl _,fun _=>⟨rfl,rfl,rfl⟩⟩
 | cons v cs ih=>
  intro c n hs h κ m K hid R hcs hk
  have hv0:cellAt B r c=some v:=by simpa using hcs 0 v rfl
  have hcs':∀ i v,cs[i]?=some v→cellAt B r (c+1+i)=some v:=fun i x hx=>by
   have:=hcs (i+1) x (by simpa using hx)
   rwa [show c+(i+1)=c+1+i by omega] at this
  obtain ⟨_,hB⟩:=R.blk id _ (upd_eq _ _ _)
  obtain ⟨u0,hu0,hr0⟩:=relBlk_cell hB (r:=r) (c:=c) (v:=v) (by rw[cellAt_with];exact hv0)
  rw[cellOff_with] at hu0
  rw[holesIn_with] at hr0
  simp only[openCells] at hk
  have hrow:isBox B=true→∀ x∈hs,x.row=r:=fun hb x hx=>by
   cases B with
   | box row hs0=>rw[hbox rfl];exact hB.1 x hx
   | rows=>cases hb
  have fin:∀ {n2:Nat} {hs2:List Hole} {h2:Heap} {κ2:Gh} {m2:Nat→Addr} {x:AV},n≤n2→id < n2→Rel w κ2 m2 n2 s (upd h2 id (some (withHoles B hs2))) a→Stp κ w κ2 w→(∀ j,j < n→m2 j=m j)→(∀ j,j < n→j≠id→h2 j=h j)→
    (∀ v u,liveV w κ m n (upd h id (some (withHoles B hs))) v u→liveV w κ2 m2 n2 (upd h2 id (some (withHoles B hs2))) v u)→
    (relV w κ2 (liveV w κ2 m2 n2 (upd h2 id (some (withHoles B hs2)))) none x u0)→hs.length≤hs2.length→(hs2.length=hs.length→hs2=hs∧n2=n∧h2=h)→
    (openCells n2 h2 (isBox B) r (c+1) cs hs2 fun n l hs h=>K n (x::l) hs h)→
    ∃ n' l hs' h' κ' m',K n' l hs' h'∧n≤n'∧Rel w κ' m' n' s (upd h' id (some (withHoles B hs'))) a∧Stp κ w κ' w∧(∀ j,j < n→m' j=m j)∧(∀ j,j < n→j≠id→h' j=h j)∧
     (∀ v u,liveV w κ m n (upd h id (some (withHoles B hs))) v u→liveV w κ' m' n' (upd h' id (some (withHoles B hs'))) v u)∧l.length=(v::cs).length∧
     (∀ i v u,l[i]?=some v→w.cell? ⟨(m id).block,(m id).off+cellOff B r (c+i),none⟩=some u→relV w κ' (liveV w κ' m' n' (upd h' id (some (withHoles B hs')))) none v u)∧
     hs.length≤hs'.length∧(hs'.length=hs.length→hs'=hs∧n'=n∧h'=h):=by
   intro n2 hs2 h2 κ2 m2 x hn2 hid2 R2 S2 hm2 hh2 hL2 hx hlen hsame hk2
   obtain ⟨n',l,hs',h',κ',m',g1,g2,g3,g4,g5,g6,g7,g8,g9,g10,g11⟩:=ih hid2 R2 hcs' hk2
   refine ⟨n',x::l,hs',h',κ',m',g1,Nat.le_trans hn2 g2,g3,S2.trans g4,fun j hj=>(g5 j (by omega)).trans (hm2 j hj),fun j hj hji=>(g6 j (by omega) hji).trans (hh2 j hj hji),fun v u hv=>g7 v u (hL2 v u hv),by simp[g8],?_,Nat.le_trans hlen g10,fun e=>?_⟩
   ·intro i v u hi hu
    cases i with
    | zero=>
     simp at hi;subst hi
     rw[Nat.add_zero,hu0] at hu
     injection hu with hu;subst hu
     exact relV_move g4.immMap' g7 _ none none _ .none_ hx
    | succ i=>
     refine g9 i v u (by simpa using hi) ?_
     rw[hm2 id hid]
     rwa [show c+(i+1)=c+1+i by omega] at hu
   ·obtain ⟨e1,e2,e3⟩:=hsame (by omega)
    subst e1;subst e2;subst e3
    exact g11 e
  rcases holeAt_sound hrow hk with ⟨i,hf,hk⟩ | ⟨hf,hk⟩
  ·simp only[relCell,hf] at hr0
   exact fin (x:= .own i) (Nat.le_refl _) hid R (Stp.refl _ _) (fun _ _=>rfl) (fun _ _ _=>rfl) (fun _ _ h=>h) hr0 (Nat.le_refl _) (fun _=>⟨rfl,rfl,rfl⟩) hk
  ·simp only[relCell,hf] at hr0
   by_cases ho:∃ k rs,v= .ow k rs
   ·obtain ⟨k,rs,rfl⟩:=ho
    obtain ⟨κ2,m2,R2,S2,hm2,hL2,hnew⟩:=open1 R (upd_eq _ _ _) (r:=r) (c:=c) (k:=k) (rs:=rs) (by rw[cellAt_with];exact hv0) (by rw[holesIn_with];exact hf)
    have eh:upd (upd (upd h id (some (withHoles B hs))) n (some (Blk.rows k rs []))) id (some (withHoles (withHoles B hs) (⟨r,c,n⟩::holesIn (withHoles B hs))))=upd (upd h n (some (Blk.rows k rs []))) id (some (withHoles B (⟨r,c,n⟩::hs))):=by
     rw[withHoles_with,holesIn_with,upd_comm h _ _ (by omega:id≠n),upd_upd]
    rw[eh] at R2 hL2 hnew
    rw[cellOff_with] at hnew
    exact fin (x:= .own n) (Nat.le_succ _) (by omega) R2 S2 hm2 (fun j hj _=>upd_ne _ _ (by omega)) hL2 (hnew u0 hu0) (by simp) (fun e=>by simp at e) hk
   ·have h1:∀ k rs,v≠ .ow k rs:=fun k rs e=>ho ⟨k,rs,e⟩
    have h2:∀ r,v≠ .pb r:=fun r e=>by subst e;exact hk
    have h3:∀ r,v≠ .agg r:=fun r e=>by subst e;exact hk
    have h4:∀ r,v≠ .tup r:=fun r e=>by subst e;exact hk
    have hk':openCells n h (isBox B) r (c+1) cs hs fun n l hs h=>K n (v::l) hs h:=by
     cases v<;>first | exact hk | exact absurd rfl (h1 _ _) | exact absurd rfl (h2 _) | exact absurd rfl (h3 _) | exact absurd rfl (h4 _)
    exact fin (Nat.le_refl _) hid R (Stp.refl _ _) (fun _ _=>rfl) (fun _ _ _=>rfl) (fun _ _ h=>h) (relV_simple hr0 h1 h2 h3 h4) (Nat.le_refl _) (fun _=>⟨rfl,rfl,rfl⟩) hk'
end
end Go.Proofs.VI
end
section
set_option linter.unusedVariables false
set_option linter.unusedSimpArgs false
namespace Go.Proofs.VI
open Go
section
variable {P:Program} {w w':World} {κ κ':Gh} {m m':Nat→Addr} {n n':Nat} {s:Slots} {h h':Heap} {a:Act} {L L':AV→Value→Prop} {tt:TypeId→Option TI}
theorem cells_exist {b o:Nat}:∀ (N:Nat),(∀ j,j < N→∃ u,w.cell? ⟨b,o+j,none⟩=some u)→∃ vs:List Value,vs.length=N∧Cells w b o vs:=by
 intro N
 induction N with
 | zero=>exact fun _=>⟨[],rfl,fun j u hj=>by simp at hj⟩
 | succ N ih=>
  intro hN
  obtain ⟨vs,h1,h2⟩:=ih fun j hj=>hN j (by omega)
  obtain ⟨u,hu⟩:=hN N (by omega)
  refine ⟨vs++[u],by simp[h1],fun j x hj=>?_⟩
  by_cases e:j < vs.length
  ·rw[List.getElem?_append_left e] at hj;exact h2 j x hj
  ·rw[List.getElem?_append_right (by omega)] at hj
   have e2:j - vs.length=0:=by
    cases hz:j - vs.length with
    | zero=>rfl
    | succ k=>rw[hz] at hj;simp at hj
   rw[e2] at hj
   simp at hj;subst hj
   have:j=N:=by omega
   subst this;exact hu
theorem ok_load_own (T:TOk P tt) {o:Oper} {t:TypeId} {x:Operand} {K:Bool→Nat→AV→Heap→Prop} (R:Rel w κ m n s h a) (ho:o.op= .load t x) {i:TI} (ht:tt t=some i) {id r c:Nat} {B:Blk} {row:List AV}
  (hb:h id=some B) (hbox:isBox B=true→r=0) (hrow:∀ j v,row[j]?=some v→cellAt B r j=some v)
  (hx:a.eval x= .pointer (some ⟨(m id).block,(m id).off+cellOff B r c,none⟩))
  (hk:takeN row c i.size fun cs=>openCells n h (isBox B) r c cs (holesIn B) fun n cs hs' h=>ofCells i cs fun v=>K (!Nat.beq hs'.length (holesIn B).length) n v (bif Nat.beq hs'.length (holesIn B).length then h else upd h id (some (withHoles B hs')))):OpOk P o K w κ m n s h a:=by
 obtain ⟨cs,hk,hl,hg⟩:=takeN_sound hk
 obtain ⟨hid,hB⟩:=R.blk id B hb
 have hself:upd h id (some (withHoles B (holesIn B)))=h:=upd_self (by rw[with_holesIn];exact hb)
 have hcell:∀ j v,cs[j]?=some v→cellAt B r (c+j)=some v:=fun j v hj=>hrow _ _ (hg j v hj)
 have hoff:∀ j,cellOff B r (c+j)=cellOff B r c+j:=fun j=>by cases B<;>simp[cellOff];omega
 obtain ⟨vs,hvl,hvc⟩:=cells_exist (w:=w) (b:=(m id).block) (o:=(m id).off+cellOff B r c) cs.length fun j hj=>by
  obtain ⟨u,hu,_⟩:=relBlk_cell hB (hcell j cs[j] (List.getElem?_eq_getElem hj))
  rw[hoff] at hu
  exact ⟨u,by rw[Nat.add_assoc];exact hu⟩
 obtain ⟨n',l,hs',h',κ',m',g1,g2,g3,g4,g5,g6,g7,g8,g9,g10,g11⟩:=openCells_sound (s:=s) (a:=a) (m:=m) (κ:=κ) (w:=w) hbox hid (by rw[hself];exact R) hcell hk
 have hrel:∀ j v u,l[j]?=some v→vs[j]?=some u→relV w κ' (liveV w κ' m' n' (upd h' id (some (withHoles B hs')))) none v u:=fun j v u hj hu=>by
  refine g9 j v u hj ?_
  have:=hvc j u hu
  rwa [hoff,←Nat.add_assoc]
 obtain ⟨v,hv,hrv⟩:=ofCells_sound (by omega) hrel g1
 have hrun:=run_load_op T ho ht hx (by omega) hvc
 unfold OpOk Oper.wp
 rw[hrun]
 cases hq:Nat.beq hs'.length (holesIn B).length with
 | true=>
  rw[hq] at hv
  obtain ⟨e1,e2,e3⟩:=g11 (Nat.eq_of_beq_eq_true hq)
  subst e1;subst e2;subst e3
  rw[hself] at g3 hrv g7
  exact ⟨_,n',v,h',κ',m',_,hv,g2,rfl,hrv,g3,g4,fun _ _ _=>rfl,fun j hj _=>g5 j hj,g7⟩
 | false=>
  rw[hq] at hv
  exact ⟨_,n',v,_,κ',m',_,hv,g2,rfl,hrv,g3,g4,fun e=>(by simp at e),fun j hj _=>g5 j hj,by rw[hself] at g7;exact g7⟩
theorem relL_get {K:Option Key}:∀ {cs:List AV} {vs:List Value} {c:Nat},relL w κ L K c cs vs→vs.length=cs.length∧∀ j v u,cs[j]?=some v→vs[j]?=some u→relV w κ L (kid K 0 (c+j)) v u
 | [],_,c,rfl=>⟨rfl,fun j v u hj=>by simp at hj⟩
 | v::cs,_,c,⟨u,us,rfl,h1,h2⟩=>by
  obtain ⟨h3,h4⟩:=relL_get h2
  refine ⟨by simp[h3],fun j x y hx hy=>?_⟩
  cases j with
  | zero=>simp at hx hy;subst hx;subst hy;exact h1
  | succ j=>rw[show c+(j+1)=c+1+j by omega];exact h4 j x y (by simpa using hx) (by simpa using hy)
theorem relV_cells {v:AV} {u:Value} (hv:relV w κ (liveV w κ m n h) none v u) (h1:v≠ .und) (h2:∀ l,v≠ .tup l):u.cells.toList.length=v.cells.length∧∀ (j:Nat) (x:AV) (y:Value),v.cells[j]?=some x→u.cells.toList[j]?=some y→relV w κ (liveV w κ m n h) none x y:=by
 have one:(∀ cs,v≠ .agg cs)→(∀ cs,u≠ .agg cs)→u.cells.toList.length=v.cells.length∧∀ (j:Nat) (x:AV) (y:Value),v.cells[j]?=some x→u.cells.toList[j]?=some y→relV w κ (liveV w κ m n h) none x y:=fun e1 e2=>by
  have hc:v.cells=[v]:=by cases v<;>first | rfl | exact absurd rfl (e1 _)
  have hu:u.cells= #[u]:=by cases u<;>first | rfl | exact absurd rfl (e2 _)
  rw[hc,hu]
  refine ⟨rfl,fun j x y hx hy=>?_⟩
  cases j with
  | zero=>simp at hx hy;subst hx;subst hy;exact hv
  | succ j=>simp at hx
 cases v with
 | agg cs=>
  obtain ⟨vs,hu,hr⟩:=hv
  obtain ⟨g1,g2⟩:=relL_get hr
  subst hu
  exact ⟨by simpa [AV.cells,Value.cells] using g1,fun j x y hx hy=>by simpa [kid] using g2 j x y hx (by simpa [Value.cells] using hy)⟩
 | und=>exact absurd rfl h1
 | tup l=>exact absurd rfl (h2 l)
 | int k i=>exact one (by simp) (by rw[show u=_ from hv];simp)
 | bool b=>exact one (by simp) (by rw[show u=_ from hv];simp)
 | tt=>exact one (by simp) (by rw[show u=_ from hv];simp)
 | ff=>exact one (by simp) (by rw[show u=_ from hv];simp)
 | str b=>exact one (by simp) (by rw[show u=_ from hv];simp)
 | nilp=>exact one (by simp) (by rw[show u=_ from hv];simp)
 | nili=>exact one (by simp) (by rw[show u=_ from hv];simp)
 | nils=>obtain ⟨A,e⟩:=hv;exact one (by simp) (by rw[e];simp)
 | ifc=>exact one (by simp) (fun cs e=>by subst e;cases (show Value.oneCell' _=true from hv))
 | ro k rows=>obtain ⟨A,cap,e,_⟩:=hv;exact one (by simp) (by rw[e];simp)
 | ow k rows=>obtain ⟨A,cap,e,_⟩:=hv;exact one (by simp) (by rw[e];simp)
 | rp row c=>obtain ⟨b,off,C,t,fr,e,_⟩:=hv;exact one (by simp) (by rw[e];simp)
 | pb row=>obtain ⟨b,off,C,t,fr,e,_⟩:=hv;exact one (by simp) (by rw[e];simp)
 | fn f cs=>obtain ⟨vs,e,_⟩:=hv;exact one (by simp) (by rw[e];simp)
 | own i=>obtain ⟨_,⟨A,l,c,e⟩,_⟩:=hv;exact one (by simp) (by rw[e];simp)
 | sl i o l=>obtain ⟨_,⟨A,l,c,e⟩,_⟩:=hv;exact one (by simp) (by rw[e];simp)
 | ptr i r c=>obtain ⟨_,⟨A,e⟩,_⟩:=hv;exact one (by simp) (by rw[e];simp)
theorem findHole_append {hs hs2:List Hole} {r c:Nat}:findHole (hs++hs2) r c=(findHole hs r c).or (findHole hs2 r c):=by
 unfold findHole
 rw[List.find?_append]
 cases hs.find? (fun x=>x.row == r&&x.cell == c)<;>rfl
theorem findHole_none {hs:List Hole} {r c:Nat} (hh:∀ x∈hs,¬ (x.row=r∧x.cell=c)):findHole hs r c=none:=by
 unfold findHole
 rw[List.find?_eq_none.2 fun x hx=>by simpa using fun e1 e2=>hh x hx ⟨e1,e2⟩]
 rfl
theorem holesOf_sound:∀ {cs:List AV} {us:List Value} {r c:Nat} {K:List AV→List Hole→Prop},us.length=cs.length→(∀ (j:Nat) (x:AV) (y:Value),cs[j]?=some x→us[j]?=some y→relV w κ (liveV w κ m n h) none x y)→holesOf r c cs K→
  ∃ l hs,K l hs∧l.length=cs.length∧(∀ x∈hs,x.row=r∧c≤x.cell∧x.cell < c+cs.length)∧(∀ y∈us,y.oneCell'=true)∧
   ∀ (id j:Nat) (x:AV) (y:Value),l[j]?=some x→us[j]?=some y→relCell w κ (liveV w κ m n h) id hs r (c+j) x y
 | [],us,r,c,K,hl,hr,hk=>by
  cases us with
  | nil=>exact ⟨[],[],hk,rfl,fun x hx=>by simp at hx,fun y hy=>by simp at hy,fun id j x y hx=>by simp at hx⟩
  | cons=>simp at hl
 | v::cs,[],r,c,K,hl,hr,hk=>by simp at hl
 | v::cs,u::us,r,c,K,hl,hr,hk=>by
  have hv:=hr 0 v u rfl rfl
  have hl':us.length=cs.length:=by simpa using hl
  have hr':∀ (j:Nat) (x:AV) (y:Value),cs[j]?=some x→us[j]?=some y→relV w κ (liveV w κ m n h) none x y:=fun j x y hx hy=>hr (j+1) x y (by simpa using hx) (by simpa using hy)
  have plain:∀ x:AV,u.oneCell'=true→(∀ id,relV w κ noL (some (id,[(r,c)])) x u)→holesOf r (c+1) cs (fun l hs=>K (x::l) hs)→
    ∃ l hs,K l hs∧l.length=(v::cs).length∧(∀ x∈hs,x.row=r∧c≤x.cell∧x.cell < c+(v::cs).length)∧(∀ y∈u::us,y.oneCell'=true)∧
     ∀ (id j:Nat) (x:AV) (y:Value),l[j]?=some x→(u::us)[j]?=some y→relCell w κ (liveV w κ m n h) id hs r (c+j) x y:=fun x h1 h2 hk=>by
   obtain ⟨l,hs,g1,g2,g3,g4,g5⟩:=holesOf_sound hl' hr' hk
   refine ⟨_,hs,g1,by simp[g2],fun y hy=>?_,fun y hy=>?_,fun id j y z hy hz=>?_⟩
   ·have:=g3 y hy;simp;omega
   ·rcases List.mem_cons.1 hy with e | hy
    ·rw[e];exact h1
    ·exact g4 y hy
   ·cases j with
    | zero=>
     simp at hy hz;subst hy;subst hz
     unfold relCell
     rw[Nat.add_zero,findHole_none fun y hy=>by have:=g3 y hy;omega]
     exact h2 id
    | succ j=>rw[show c+(j+1)=c+1+j by omega];exact g5 id j y z (by simpa using hy) (by simpa using hz)
  cases v with
  | own i=>
   obtain ⟨l,hs,g1,g2,g3,g4,g5⟩:=holesOf_sound hl' hr' (show holesOf r (c+1) cs (fun l hs=>K (.nilp::l) (⟨r,c,i⟩::hs)) from hk)
   have hv':liveV w κ m n h (.own i) u:=hv
   refine ⟨_,_,g1,by simp[g2],fun y hy=>?_,fun y hy=>?_,fun id j y z hy hz=>?_⟩
   ·rcases List.mem_cons.1 hy with e | hy
    ·rw[e];simp
    ·have:=g3 y hy;simp;omega
   ·rcases List.mem_cons.1 hy with e | hy
    ·rw[e];obtain ⟨_,⟨A,l,c,e⟩,_⟩:=hv';rw[e];rfl
    ·exact g4 y hy
   ·unfold relCell
    rw[findHole_cons]
    cases j with
    | zero=>
     simp at hy hz;subst hy;subst hz
     simp
     exact hv'
    | succ j=>
     rw[if_neg (by simp)]
     rw[show c+(j+1)=c+1+j by omega];exact g5 id j y z (by simpa using hy) (by simpa using hz)
  | fn f cap=>
   cases cap with
   | nil=>
    obtain ⟨vs,e,e2⟩:=hv
    exact plain (.fn f []) (by rw[e];rfl) (fun id=>⟨vs,e,e2⟩) hk
   | cons=>exact (show False from hk).elim
  | und=>exact (show False from hk).elim
  | sl i o l=>exact (show False from hk).elim
  | ptr i r c=>exact (show False from hk).elim
  | pb r=>exact (show False from hk).elim
  | ow k r=>exact (show False from hk).elim
  | agg r=>exact (show False from hk).elim
  | tup r=>exact (show False from hk).elim
  | int k i=>exact plain (.int k i) (by rw[show u=_ from hv];rfl) (fun id=>hv) hk
  | bool b=>exact plain (.bool b) (by rw[show u=_ from hv];rfl) (fun id=>hv) hk
  | tt=>exact plain AV.tt (by rw[show u=_ from hv];rfl) (fun id=>hv) hk
  | ff=>exact plain AV.ff (by rw[show u=_ from hv];rfl) (fun id=>hv) hk
  | str b=>exact plain (.str b) (by rw[show u=_ from hv];rfl) (fun id=>hv) hk
  | nilp=>exact plain AV.nilp (by rw[show u=_ from hv];rfl) (fun id=>hv) hk
  | nili=>exact plain AV.nili (by rw[show u=_ from hv];rfl) (fun id=>hv) hk
  | nils=>exact plain AV.nils (by obtain ⟨A,e⟩:=hv;rw[e];rfl) (fun id=>hv) hk
  | ifc=>exact plain AV.ifc hv (fun id=>hv) hk
  | ro k rows=>exact plain (.ro k rows) (by obtain ⟨A,cap,e,_⟩:=hv;rw[e];rfl) (fun id=>hv) hk
  | rp row c'=>exact plain (.rp row c') (by obtain ⟨b,off,C,t,fr,e,_⟩:=hv;rw[e];rfl) (fun id=>hv) hk
end
end Go.Proofs.VI
end
section
set_option linter.unusedVariables false
set_option linter.unusedSimpArgs false
namespace Go.Proofs.VI
open Go
section
variable {P:Program} {w w':World} {κ κ':Gh} {m m':Nat→Addr} {n n':Nat} {s:Slots} {h h':Heap} {a:Act} {L L':AV→Value→Prop} {tt:TypeId→Option TI}
theorem constsB_get:∀ {cs:List AV} {us:List Value},constsB cs us=true→us.length=cs.length∧∀ (j:Nat) (x:AV) (y:Value),cs[j]?=some x→us[j]?=some y→constB x y=true
 | [],[],_=>⟨rfl,fun j x y hx=>by simp at hx⟩
 | [],u::us,h=>by simp[constsB] at h
 | v::cs,[],h=>by simp[constsB] at h
 | v::cs,u::us,h=>by
  simp only[constsB,Bool.and_eq_true] at h
  obtain ⟨h1,h2⟩:=constsB_get h.2
  refine ⟨by simp[h1],fun j x y hx hy=>?_⟩
  cases j with
  | zero=>simp at hx hy;subst hx;subst hy;exact h.1
  | succ j=>exact h2 j x y (by simpa using hx) (by simpa using hy)
theorem run_zero (T:TOk P tt) {t:TypeId} {i:TI} (ht:tt t=some i):∃ f z,P.info? t=some f∧f.zero=some z∧f.size=i.size∧f.bytes=i.bytes∧(∀ w,(zeroValue t).run P w= .ok z w)∧z.cells.size=i.size∧i.zero.length=i.size∧∀ (j:Nat) (x:AV) (y:Value),i.zero[j]?=some x→z.cells.toList[j]?=some y→constB x y=true:=by
 obtain ⟨f,z,h1,h2,h3,h4,h5,h6,h7,h8,h9⟩:=T.info t i ht
 exact ⟨f,z,h1,h4,h2,h3,fun w=>by simp[zeroValue,run_inf h1,h4],h9,h6,(constsB_get h5).2⟩
theorem keyMap_fresh (hf:∀ b id p,κ b=some (.key (id,p))→id < n) {K K':Key} (hK:n≤K.1):KeyMap w w' κ κ' (some K) (some K'):=
 ⟨K',rfl,fun q b hb=>by have:=hf b _ _ hb;omega⟩
theorem relCell_move {id:Nat} {hs:List Hole} {r c:Nat} {v:AV} {u:Value} (hI:ImmMap w w' κ κ') (hL:∀ v u,L v u→L' v u) (hK:KeyMap w w' κ κ' (some (id,[(r,c)])) (some (id,[(r,c)]))) (hc:relCell w κ L id hs r c v u):relCell w' κ' L' id hs r c v u:=by
 unfold relCell at hc⊢
 cases hf:findHole hs r c with
 | some i=>rw[hf] at hc;exact hL _ _ hc
 | none=>rw[hf] at hc;exact relV_move hI (fun _ _ h=>h) v _ _ u hK hc
theorem ok_new {o:Oper} {K:Bool→Nat→AV→Heap→Prop} (R:Rel w κ m n s h a) {v:AV} {u:Value} {b:Blk} {C:Array Value} {t:TypeId} {fr:Nat×Nat} (hr:(execOp a.eval o).run P w= .ok (.value u) (w.alloc (.cells C t fr)))
  (hk:K false (n+1) v (upd h n (some b)))
  (hb:∀ (κ':Gh) (m':Nat→Addr) (w':World),m' n=⟨w.heap.size,0,none⟩→w'.heap[w.heap.size]?=some (.cells C t fr)→κ' w.heap.size=some (.key (n,[]))→ImmMap w w' κ κ'→
   (∀ v u,liveV w κ m n h v u→liveV w' κ' m' (n+1) (upd h n (some b)) v u)→relBlk w' κ' m' (liveV w' κ' m' (n+1) (upd h n (some b))) n b)
  (hv:∀ (κ':Gh) (m':Nat→Addr) (w':World),m' n=⟨w.heap.size,0,none⟩→w'.heap[w.heap.size]?=some (.cells C t fr)→κ' w.heap.size=some (.key (n,[]))→relV w' κ' (liveV w' κ' m' (n+1) (upd h n (some b))) none v u):OpOk P o K w κ m n s h a:=by
 obtain ⟨κ',m',g1,g2,g3,g4,g5,g6,g7,g8⟩:=R.alloc C t b fr hb
 unfold OpOk Oper.wp
 rw[hr]
 exact ⟨false,n+1,v,_,κ',m',u,hk,Nat.le_succ _,rfl,hv κ' m' _ g3 g5 g6,g1,g2,fun _ j hj=>upd_ne _ _ (by omega),fun j hj _=>g4 j hj,g8⟩
theorem freeC_none (k:Nat) (C:Array Value):freeC k C (0,0):=⟨fun i _=>by omega,fun _=>by omega⟩
theorem ptr_new {C:Array Value} {t:TypeId} {row:List AV} {hs:List Hole} {A:Nat} (hm:m' n=⟨A,0,none⟩):relV w' κ' (liveV w' κ' m' (n+1) (upd h n (some (.box row hs)))) none (.ptr n 0 0) (.pointer (some ⟨A,0,none⟩)):=by
 show liveV w' κ' m' (n+1) _ (.ptr n 0 0) _
 refine ⟨Nat.lt_succ_self _,⟨_,rfl⟩,?_⟩
 rw[upd_eq]
 show _=_
 rw[hm]
theorem own_new {C:Array Value} {t:TypeId} {fr:Nat×Nat} {k:Nat} {rows:List (List AV)} {hs:List Hole} {A cap:Nat} (hm:m' n=⟨A,0,none⟩) (hw:w'.heap[A]?=some (.cells C t fr)) (hfr:freeC k C fr) (hκ:κ' A=some (.key (n,[]))) (hcap:rows.length≤cap) (hC:cap*k≤C.size):
  relV w' κ' (liveV w' κ' m' (n+1) (upd h n (some (.rows k rows hs)))) none (.own n) (.slice (some ⟨A,0,none⟩) rows.length cap):=by
 show liveV w' κ' m' (n+1) _ (.own n) _
 refine ⟨Nat.lt_succ_self _,⟨_,_,_,rfl⟩,?_⟩
 rw[upd_eq]
 refine ⟨_,cap,rfl,hcap,.inr ⟨by rw[hm],?_⟩⟩
 rw[hm]
 exact ⟨rfl,C,t,_,hw,hfr,hκ,by simpa using hC⟩
theorem ok_alloc (T:TOk P tt) {o:Oper} {t:TypeId} {K:Bool→Nat→AV→Heap→Prop} (R:Rel w κ m n s h a) (ho:o.op= .alloc t) {i:TI} (ht:tt t=some i) (hk:K false (n+1) (.ptr n 0 0) (upd h n (some (.box i.zero [])))):OpOk P o K w κ m n s h a:=by
 obtain ⟨f,z,h1,h2,_,_,h3,h4,h5,h6⟩:=run_zero T ht
 refine ok_new (fr:=(0,0)) (u:= .pointer (some ⟨w.heap.size,0,none⟩)) (C:=z.cells) (t:=t) R ?_ hk (fun κ' m' w' hm hw hκ hI hL=>?_) (fun κ' m' w' hm hw hκ=>ptr_new (C:=z.cells) (t:=t) hm)
 ·unfold execOp
  rw[ho]
  simp[Instr.alloc,h3,newVar,newRow]
 ·refine ⟨fun x hx=>by simp at hx,by rw[hm],z.cells,t,(0,0),by rw[hm];exact hw,freeC_none _ _,by rw[hm];exact hκ,?_⟩
  rw[hm]
  refine relHRow_mk fun j v hv=>?_
  have hj:j < z.cells.size:=by have:=(List.getElem?_eq_some_iff.1 hv).1;omega
  refine ⟨z.cells[j],by simp[hj],?_⟩
  exact constB_rel (h6 j v _ hv (by simp[hj])) _ _ _ _
theorem holesOf_ne {r c:Nat} {v:AV} {K:List AV→List Hole→Prop} (hk:holesOf r c v.cells K):v≠ .und∧∀ l,v≠ .tup l:=by
 constructor
 ·rintro rfl;exact hk.elim
 ·rintro l rfl;exact hk.elim
theorem ok_box (T:TOk P tt) {o:Oper} {t:TypeId} {x:Operand} {K:Bool→Nat→AV→Heap→Prop} (R:Rel w κ m n s h a) (ho:o.op= .box t x) {v:AV} (hx:relV w κ (liveV w κ m n h) none v (a.eval x))
  (hk:holesOf 0 0 v.cells fun cs hs=>K false (n+1) (.ptr n 0 0) (upd h n (some (.box cs hs)))):OpOk P o K w κ m n s h a:=by
 obtain ⟨e1,e2⟩:=holesOf_ne hk
 obtain ⟨c1,c2⟩:=relV_cells hx e1 e2
 obtain ⟨l,hs,g1,g2,g3,g4,g5⟩:=holesOf_sound c1 c2 hk
 refine ok_new (fr:=(0,0)) (u:= .pointer (some ⟨w.heap.size,0,none⟩)) (C:=(a.eval x).cells) (t:=t) R ?_ g1 (fun κ' m' w' hm hw hκ hI hL=>?_) (fun κ' m' w' hm hw hκ=>ptr_new (C:=(a.eval x).cells) (t:=t) hm)
 ·unfold execOp
  rw[ho]
  simp[Instr.box,newVar,newRow]
 ·refine ⟨fun x hx=>(g3 x hx).1,by rw[hm],(a.eval x).cells,t,(0,0),by rw[hm];exact hw,freeC_none _ _,by rw[hm];exact hκ,?_⟩
  rw[hm]
  refine relHRow_mk fun j v hv=>?_
  have hj:j < (a.eval x).cells.size:=by have:=(List.getElem?_eq_some_iff.1 hv).1;simp at c1;omega
  refine ⟨(a.eval x).cells[j],by simp[hj],?_⟩
  exact relCell_move hI hL (keyMap_fresh R.fresh (Nat.le_refl _)) (by simpa using g5 n j v _ hv (by simp[hj]))
theorem ok_make (T:TOk P tt) {o:Oper} {t e:TypeId} {x y:Operand} {K:Bool→Nat→AV→Heap→Prop} (R:Rel w κ m n s h a) (ho:o.op= .makeSlice t x y) {i0 i:TI} (ht0:tt t=some i0) (hk0:i0.kind= .slice e) (ht:tt e=some i)
  {k k':IntKind} {A:Int} (hx:a.eval x= .int k A) (hy:a.eval y= .int k' A) (h0:0≤A) (hb:A*i.bytes≤281474976710656) (hk:K false (n+1) (.own n) (upd h n (some (.rows i.size (List.replicate A.toNat i.zero) [])))):OpOk P o K w κ m n s h a:=by
 obtain ⟨f,z,h1,h2,hs,hbt,h3,h4,h5,h6⟩:=run_zero T ht
 obtain ⟨_,_,_,_,_,_,_,_,h7,h8,_⟩:=T.info e i ht
 have hu:=T.kind t i0 ht0
 rw[hk0] at hu
 have hbp:(1:Int)≤i.bytes:=by omega
 have hA:A≤281474976710656:=by
  have:A*1≤A*i.bytes:=Int.mul_le_mul_of_nonneg_left hbp h0
  omega
 have hC:(madeCells z.cells (A.toNat*f.size)).size=A.toNat*i.size:=by rw[size_madeCells,hs]
 refine ok_new (fr:=(0,0)) (u:= .slice (some ⟨w.heap.size,0,none⟩) (List.replicate A.toNat i.zero).length A.toNat) (C:=madeCells z.cells (A.toNat*f.size)) (t:=e) R ?_ hk (fun κ' m' w' hm hw hκ hI hL=>?_) (fun κ' m' w' hm hw hκ=>own_new hm hw (freeC_none _ _) hκ (by simp) (by rw[hC];exact Nat.le_refl _))
 ·unfold execOp
  rw[ho];dsimp only;rw[hx,hy]
  have:=run_make (P:=P) w t e f z hu h1 h2 k k' A A h0 (Int.le_refl _) (by rw[hbt,Int.mul_comm];exact hb) (by omega)
  simp only[Sem.run_bind,this,Result.andThen_ok,Sem.run_pure,List.length_replicate]
 ·by_cases hz:A.toNat=0
  ·left;rw[hz];rfl
  ·refine .inr ⟨by rw[hm],madeCells z.cells (A.toNat*f.size),e,(0,0),by rw[hm];exact hw,freeC_none _ _,by rw[hm];exact hκ,?_⟩
   rw[hm]
   refine relHRs_mk fun q row hrow=>?_
   have hq:q < A.toNat:=by have:=(List.getElem?_eq_some_iff.1 hrow).1;simpa using this
   have hrz:row=i.zero:=by
    rw[List.getElem?_replicate] at hrow
    rw[if_pos hq] at hrow
    injection hrow with hrow;exact hrow.symm
   subst hrz
   refine ⟨h5,relHRow_mk fun j v hv=>?_⟩
   have hj:j < i.size:=by have:=(List.getElem?_eq_some_iff.1 hv).1;omega
   have hlt:q*i.size+j < A.toNat*i.size:=by
    have:(q+1)*i.size≤A.toNat*i.size:=Nat.mul_le_mul_right _ hq
    rw[Nat.add_mul] at this;omega
   refine ⟨z.cells[j]'(by omega),?_,?_⟩
   ·have hmod:(q*i.size+j) % z.cells.size=j:=by
     rw[h4,Nat.add_comm,Nat.add_mul_mod_self_right,Nat.mod_eq_of_lt hj]
    simp[madeCells,hs,hlt,hmod,Nat.zero_add,getElem!_def,show j < z.cells.size by omega]
   ·exact constB_rel (h6 j v _ hv (by simp[show j < z.cells.size by omega])) _ _ _ _
end
end Go.Proofs.VI
end
section
set_option linter.unusedVariables false
set_option linter.unusedSimpArgs false
namespace Go.Proofs.VI
open Go
section
variable {P:Program} {w w':World} {κ κ':Gh} {m m':Nat→Addr} {n n':Nat} {s:Slots} {h h':Heap} {a:Act} {L L':AV→Value→Prop} {tt:TypeId→Option TI}
theorem setCells_sound:∀ {row:List AV} {c:Nat} {cs:List AV} {K:List AV→Prop},setCells row c cs K→∃ row',K row'∧row'.length=row.length∧c+cs.length≤row.length∧∀ k,row'[k]?=if c≤k∧k < c+cs.length then cs[k - c]? else row[k]?
 | [],c+1,cs,K,hk=>(show False from hk).elim
 | v::row,c+1,cs,K,hk=>by
  obtain ⟨row',g1,g2,g3,g4⟩:=setCells_sound (row:=row) (c:=c) (cs:=cs) (K:=fun l=>K (v::l)) hk
  refine ⟨v::row',g1,by simp[g2],by simp;omega,fun k=>?_⟩
  cases k with
  | zero=>simp
  | succ k=>
   simp only[List.getElem?_cons_succ,g4]
   congr 1
   ·simp;omega
   ·rw[show k+1 - (c+1)=k - c by omega]
 | row,0,[],K,hk=>⟨row,by cases row<;>exact hk,rfl,by simp,fun k=>by simp⟩
 | [],0,x::cs,K,hk=>(show False from hk).elim
 | v::row,0,x::cs,K,hk=>by
  obtain ⟨row',g1,g2,g3,g4⟩:=setCells_sound (row:=row) (c:=0) (cs:=cs) (K:=fun l=>K (x::l)) hk
  refine ⟨x::row',g1,by simp[g2],by simp at g3⊢;omega,fun k=>?_⟩
  cases k with
  | zero=>simp
  | succ k=>simp only[List.getElem?_cons_succ,g4];simp
theorem fold_set (off:Nat):∀ (us:List Value) (i:Nat) (C:Array Value),off+i+us.length≤C.size→((us.zipIdx i).foldl (fun cs (x:Value×Nat)=>cs.setIfInBounds (off+x.2) x.1) C).size=C.size∧
  ∀ k,((us.zipIdx i).foldl (fun cs (x:Value×Nat)=>cs.setIfInBounds (off+x.2) x.1) C)[k]?=if off+i≤k∧k < off+i+us.length then us[k - (off+i)]? else C[k]?
 | [],i,C,_=>⟨rfl,fun k=>by simp;intros;omega⟩
 | u::us,i,C,hC=>by
  simp only[List.zipIdx_cons,List.foldl_cons]
  obtain ⟨h1,h2⟩:=fold_set off us (i+1) (C.setIfInBounds (off+i) u) (by simp at hC⊢;omega)
  refine ⟨by rw[h1];simp,fun k=>?_⟩
  rw[h2]
  simp only[List.length_cons] at hC⊢
  by_cases e:k=off+i
  ·subst e
   rw[if_neg (by omega),if_pos (by omega)]
   rw[Array.getElem?_setIfInBounds_self_of_lt (by omega)]
   simp
  ·by_cases e2:off+(i+1)≤k∧k < off+(i+1)+us.length
   ·rw[if_pos e2,if_pos (by omega)]
    rw[show k - (off+i)=(k - (off+(i+1)))+1 by omega]
    simp
   ·rw[if_neg e2,if_neg (by omega)]
    rw[Array.getElem?_setIfInBounds_ne (by omega)]
theorem fold_arr (off:Nat) (us C:Array Value) (hC:off+us.size≤C.size):(us.zipIdx.foldl (fun cs (c,j)=>cs.setIfInBounds (off+j) c) C).size=C.size∧
  ∀ k,(us.zipIdx.foldl (fun cs (c,j)=>cs.setIfInBounds (off+j) c) C)[k]?=if off≤k∧k < off+us.size then us[k - off]? else C[k]?:=by
 have:=fold_set off us.toList 0 C (by simpa using hC)
 rw[←Array.foldl_toList]
 simpa using this
theorem plain_and {v:AV} {k:Nat} (hq:(plainV v&&Nat.beq v.cells.length k)=true):(v≠ .und∧∀ l,v≠ .tup l)∧v.cells.length=k:=by
 rw[Bool.and_eq_true] at hq
 refine ⟨⟨?_,?_⟩,Nat.eq_of_beq_eq_true hq.2⟩
 ·rintro rfl;exact absurd hq.1 (by simp[plainV])
 ·rintro l rfl;exact absurd hq.1 (by simp[plainV])
def RC (w:World) (κ:Gh) (L:AV→Value→Prop) (cs:List AV) (C:Array Value):Prop:=C.size=cs.length∧∀ (j:Nat) (x:AV) (y:Value),cs[j]?=some x→C[j]?=some y→relV w κ L none x y
theorem relP_get (R:Rel w κ m n s h a):∀ {l:List (Nat×Operand)} {K:List (Nat×AV)→Prop},opvP s l K→∃ ps,K ps∧ps.length=l.length∧∀ (j i:Nat) (v:AV),ps[j]?=some (i,v)→∃ x,l[j]?=some (i,x)∧relV w κ (liveV w κ m n h) none v (a.eval x)
 | [],K,hk=>⟨[],hk,rfl,fun j i v hj=>by simp at hj⟩
 | (i,x)::l,K,hk=>by
  obtain ⟨v,h1,h2⟩:=opv_sound R (show opv s x (fun v=>opvP s l fun vs=>K ((i,v)::vs)) from hk)
  obtain ⟨ps,h3,h4,h5⟩:=relP_get R h1
  refine ⟨(i,v)::ps,h3,by simp[h4],fun j i' v' hj=>?_⟩
  cases j with
  | zero=>simp at hj;obtain ⟨rfl,rfl⟩:=hj;exact ⟨x,rfl,h2⟩
  | succ j=>simpa using h5 j i' v' (by simpa using hj)
theorem fill_sound (T:TOk P tt) {fs:List Field} {places:List (Nat×Nat)} (hp:fs.mapM (fun f=>(P.info? f.type).map fun i=>(f.offset,i.size))=some places):
  ∀ {l:List (Nat×Operand)} {ps:List (Nat×AV)} {cells:List AV} {C:Array Value} {K:List AV→Prop},ps.length=l.length→(∀ (j i:Nat) (v:AV),ps[j]?=some (i,v)→∃ x,l[j]?=some (i,x)∧relV w κ (liveV w κ m n h) none v (a.eval x))→
   RC w κ (liveV w κ m n h) cells C→partsCells tt (fs.map fun f=>(f.offset,f.type)) cells ps K→∃ cells' C',Instr.fill (places.toArray[·]?) C (l.map fun (i,x)=>(i,a.eval x))=some C'∧K cells'∧RC w κ (liveV w κ m n h) cells' C'
 | [],[],cells,C,K,_,_,hC,hk=>⟨cells,C,rfl,hk,hC⟩
 | [],_::_,cells,C,K,hl,_,hC,hk=>by simp at hl
 | _::_,[],cells,C,K,hl,_,hC,hk=>by simp at hl
 | (i,x)::l,(i',v)::ps,cells,C,K,hl,hps,hC,hk=>by
  obtain ⟨x',e,hv⟩:=hps 0 i' v rfl
  simp at e;obtain ⟨rfl,rfl⟩:=e
  simp only[partsCells,List.getElem?_map] at hk
  cases hf:fs[i]? with
  | none=>rw[hf] at hk;exact hk.elim
  | some f=>
   rw[hf] at hk
   simp only[Option.map_some] at hk
   cases ht:tt f.type with
   | none=>rw[ht] at hk;exact hk.elim
   | some ti=>
    rw[ht] at hk
    simp only at hk
    cases hq:(plainV v&&Nat.beq v.cells.length ti.size) with
    | false=>rw[hq] at hk;exact hk.elim
    | true=>
     rw[hq] at hk
     obtain ⟨hne,hq⟩:=plain_and hq
     have hk:setCells cells f.offset v.cells fun cells=>partsCells tt (fs.map fun f=>(f.offset,f.type)) cells ps K:=hk
     obtain ⟨row',g1,g2,g3,g4⟩:=setCells_sound hk
     obtain ⟨fi,z,hi,hsz,_⟩:=T.info f.type ti ht
     have hpl:places[i]?=some (f.offset,ti.size):=by
      have:∀ (fs:List Field) (places:List (Nat×Nat)) (i:Nat),fs.mapM (fun f=>(P.info? f.type).map fun i=>(f.offset,i.size))=some places→fs[i]?=some f→places[i]?=some (f.offset,ti.size):=by
       intro fs
       induction fs with
       | nil=>intro places i _ h;simp at h
       | cons g fs ih=>
        intro places i hp hf
        simp only[List.mapM_cons,Option.bind_eq_bind,Option.pure_def] at hp
        cases hg:P.info? g.type with
        | none=>simp[hg] at hp
        | some gi=>
         cases hr:fs.mapM (fun f=>(P.info? f.type).map fun i=>(f.offset,i.size)) with
         | none=>simp[hg,hr] at hp
         | some rest=>
          simp[hg,hr] at hp
          subst hp
          cases i with
          | zero=>simp at hf;subst hf;rw[hi] at hg;injection hg with hg;subst hg;simp[hsz]
          | succ i=>simpa using ih rest i hr (by simpa using hf)
      exact this fs places i hp hf
     obtain ⟨c1,c2⟩:=relV_cells hv hne.1 hne.2
     have hsize:(a.eval x).cells.size=v.cells.length:=by simpa using c1
     obtain ⟨f1,f2⟩:=fold_arr f.offset (a.eval x).cells C (by rw[hC.1,hsize];exact g3)
     have hC':RC w κ (liveV w κ m n h) row' ((a.eval x).cells.zipIdx.foldl (fun cs (c,j)=>cs.setIfInBounds (f.offset+j) c) C):=by
      refine ⟨by rw[f1,g2,hC.1],fun j x' y hx hy=>?_⟩
      rw[g4] at hx;rw[f2,hsize] at hy
      by_cases e:f.offset≤j∧j < f.offset+v.cells.length
      ·rw[if_pos e] at hx hy
       exact c2 _ x' y hx (by simpa using hy)
      ·rw[if_neg e] at hx hy
       exact hC.2 j x' y hx hy
     obtain ⟨cells',C',k1,k2,k3⟩:=fill_sound T hp (by simpa using hl) (fun j i v hj=>by simpa using hps (j+1) i v (by simpa using hj)) hC' g1
     refine ⟨cells',C',?_,k2,k3⟩
     simp only[List.map_cons,Instr.fill]
     have:(places.toArray[i]?)=some (f.offset,ti.size):=by simpa using hpl
     rw[this]
     dsimp only
     rw[if_neg (by
      rw[hsize,hC.1]
      simp
      omega)]
     exact k1
theorem mapM_places {fs:List Field} (hf:∀ f∈fs,∃ fi,P.info? f.type=some fi∧fi.size≠0):∃ places,fs.mapM (fun f=>(P.info? f.type).map fun i=>(f.offset,i.size))=some places:=by
 induction fs with
 | nil=>exact ⟨[],rfl⟩
 | cons f fs ih=>
  obtain ⟨places,hp⟩:=ih fun g hg=>hf g (List.mem_cons_of_mem _ hg)
  obtain ⟨i,hi,_⟩:=hf f (List.mem_cons_self ..)
  exact ⟨(f.offset,i.size)::places,by simp[hp,hi]⟩
theorem ok_build (T:TOk P tt) {o:Oper} {t:TypeId} {parts:Array (Nat×Operand)} {K:Bool→Nat→AV→Heap→Prop} (R:Rel w κ m n s h a) (ho:o.op= .build t parts) {i:TI} (ht:tt t=some i) {fs:List (Nat×TypeId)} (hk0:i.kind= .struct fs)
  (hk:opvP s parts.toList fun ps=>partsCells tt fs i.zero ps fun cs=>K false n (.agg cs) h):OpOk P o K w κ m n s h a:=by
 obtain ⟨f,z,h1,h2,hs,hbt,h3,h4,h5,h6⟩:=run_zero T ht
 have hu:=T.kind t i ht
 rw[hk0] at hu
 obtain ⟨fields,hu,hfs,hall⟩:=hu
 obtain ⟨places,hp⟩:=mapM_places hall
 obtain ⟨ps,g1,g2,g3⟩:=relP_get R hk
 have hz:RC w κ (liveV w κ m n h) i.zero z.cells:=⟨by omega,fun j x y hx hy=>constB_rel (h6 j x y hx (by simpa using hy)) _ _ _ _⟩
 subst hfs
 obtain ⟨cells',C',k1,k2,k3⟩:=fill_sound T hp g2 g3 hz g1
 refine OpOk.value R (u:= .agg C') ?_ k2 ⟨C'.toList,by simp,relL_mk (by simpa using k3.1) fun j v u hv hu=>by simpa [kid] using k3.2 j v u hv (by simpa using hu)⟩
 have hbuilt:P.built t (parts.map fun (i,x)=>(i,a.eval x)).toList=some C':=by
  unfold Program.built
  rw[h1,hu]
  dsimp only
  rw[h2,hp]
  simpa using k1
 unfold execOp
 rw[ho]
 simp only[Sem.run_bind,run_build w t _ C' hbuilt,Result.andThen_ok,Sem.run_pure]
theorem setAt_sound:∀ {l:List (List AV)} {i:Nat} {x:List AV} {K:List (List AV)→Prop},setAt l i x K→∃ l',K l'∧i < l.length∧l'=l.set i x
 | [],0,x,K,hk=>(show False from hk).elim
 | [],i+1,x,K,hk=>(show False from hk).elim
 | v::l,0,x,K,hk=>⟨_,hk,by simp,rfl⟩
 | v::l,i+1,x,K,hk=>by
  obtain ⟨l',g1,g2,g3⟩:=setAt_sound (l:=l) (i:=i) (K:=fun l=>K (v::l)) hk
  exact ⟨_,g1,by simp;omega,by simp[g3]⟩
theorem repl_eq:∀ (n:Nat) (x:List AV) (K:List (List AV)→Prop),repl n x K=K (List.replicate n x)
 | 0,x,K=>rfl
 | n+1,x,K=>by simp only[repl,repl_eq n x];rfl
def RR (w:World) (κ:Gh) (L:AV→Value→Prop) (k:Nat) (rows:List (List AV)) (C:Array Value):Prop:=
 C.size=rows.length*k∧∀ (i:Nat) (row:List AV),rows[i]?=some row→row.length=k∧∀ (j:Nat) (x:AV) (y:Value),row[j]?=some x→C[i*k+j]?=some y→relV w κ L none x y
theorem rows_lt {i j k N:Nat} (h:i < N) (hj:j < k):i*k+j < N*k:=by
 have:(i+1)*k≤N*k:=Nat.mul_le_mul_right _ h
 rw[Nat.add_mul] at this;omega
theorem rows_ne {i i' j j' k:Nat} (h:i≠i') (hj:j < k) (hj':j' < k):i*k+j≠i'*k+j':=by
 intro e
 rcases Nat.lt_or_gt_of_ne h with e1 | e1
 ·have:(i+1)*k≤i'*k:=Nat.mul_le_mul_right _ e1
  rw[Nat.add_mul] at this;omega
 ·have:(i'+1)*k≤i*k:=Nat.mul_le_mul_right _ e1
  rw[Nat.add_mul] at this;omega
theorem fillRows_sound {k:Nat}:
  ∀ {l:List (Nat×Operand)} {ps:List (Nat×AV)} {rows:List (List AV)} {C:Array Value} {K:List (List AV)→Prop},ps.length=l.length→(∀ (j i:Nat) (v:AV),ps[j]?=some (i,v)→∃ x,l[j]?=some (i,x)∧relV w κ (liveV w κ m n h) none v (a.eval x))→
   RR w κ (liveV w κ m n h) k rows C→rowsOfParts k rows ps K→∃ rows' C',Instr.fill (fun i=>some (i*k,k)) C (l.map fun (i,x)=>(i,a.eval x))=some C'∧K rows'∧RR w κ (liveV w κ m n h) k rows' C'∧rows'.length=rows.length
 | [],[],rows,C,K,_,_,hC,hk=>⟨rows,C,rfl,hk,hC,rfl⟩
 | [],_::_,cells,C,K,hl,_,hC,hk=>by simp at hl
 | _::_,[],cells,C,K,hl,_,hC,hk=>by simp at hl
 | (i,x)::l,(i',v)::ps,rows,C,K,hl,hps,hC,hk=>by
  obtain ⟨x',e,hv⟩:=hps 0 i' v rfl
  simp at e;obtain ⟨rfl,rfl⟩:=e
  simp only[rowsOfParts] at hk
  cases hq:(plainV v&&Nat.beq v.cells.length k) with
  | false=>rw[hq] at hk;exact hk.elim
  | true=>
   rw[hq] at hk
   obtain ⟨hne,hq⟩:=plain_and hq
   obtain ⟨rows1,g1,g2,g3⟩:=setAt_sound (show setAt rows i v.cells fun rows=>rowsOfParts k rows ps K from hk)
   subst g3
   obtain ⟨c1,c2⟩:=relV_cells hv hne.1 hne.2
   have hsize:(a.eval x).cells.size=k:=by rw[←hq];simpa using c1
   have hle:i*k+k≤C.size:=by
    rw[hC.1]
    have:(i+1)*k≤rows.length*k:=Nat.mul_le_mul_right _ g2
    rw[Nat.add_mul] at this;omega
   obtain ⟨f1,f2⟩:=fold_arr (i*k) (a.eval x).cells C (by rw[hsize];exact hle)
   have hC':RR w κ (liveV w κ m n h) k (rows.set i v.cells) ((a.eval x).cells.zipIdx.foldl (fun cs (c,j)=>cs.setIfInBounds (i*k+j) c) C):=by
    refine ⟨by rw[f1,hC.1];simp,fun q row hrow=>?_⟩
    by_cases e:q=i
    ·subst e
     rw[List.getElem?_set_self (by omega)] at hrow
     injection hrow with hrow;subst hrow
     refine ⟨hq,fun j x' y hx hy=>?_⟩
     have hj:j < k:=by have:=(List.getElem?_eq_some_iff.1 hx).1;omega
     rw[f2,hsize,if_pos (by omega)] at hy
     exact c2 j x' y hx (by rw[show q*k+j - q*k=j by omega] at hy;simpa using hy)
    ·rw[List.getElem?_set_ne (Ne.symm e)] at hrow
     obtain ⟨d1,d2⟩:=hC.2 q row hrow
     refine ⟨d1,fun j x' y hx hy=>?_⟩
     have hj:j < k:=by have:=(List.getElem?_eq_some_iff.1 hx).1;omega
     rw[f2,hsize,if_neg (fun e2=>by
      have:=rows_ne (i:=q) (i':=i) (j:=j) (j':=q*k+j - i*k) (k:=k) e hj (by omega)
      omega)] at hy
     exact d2 j x' y hx hy
   obtain ⟨rows',C',k1,k2,k3,k4⟩:=fillRows_sound (by simpa using hl) (fun j i v hj=>by simpa using hps (j+1) i v (by simpa using hj)) hC' g1
   refine ⟨rows',C',?_,k2,k3,by rw[k4];simp⟩
   simp only[List.map_cons,Instr.fill]
   rw[if_neg (by
    rw[hsize]
    simp
    omega)]
   exact k1
theorem holesOfRows_sound {k:Nat} {C:Array Value}:∀ {rows:List (List AV)} {r:Nat} {K:List (List AV)→List Hole→Prop},(∀ (i:Nat) (row:List AV),rows[i]?=some row→row.length=k∧∀ (j:Nat) (x:AV) (y:Value),row[j]?=some x→C[(r+i)*k+j]?=some y→relV w κ (liveV w κ m n h) none x y)→
   (r+rows.length)*k≤C.size→holesOfRows r rows K→∃ rows' hs,K rows' hs∧rows'.length=rows.length∧(∀ x∈hs,r≤x.row)∧∀ (i:Nat) (row:List AV),rows'[i]?=some row→row.length=k∧
    ∀ (id j:Nat) (x:AV) (y:Value),row[j]?=some x→C[(r+i)*k+j]?=some y→relCell w κ (liveV w κ m n h) id hs (r+i) j x y
 | [],r,K,_,_,hk=>⟨[],[],hk,rfl,fun x hx=>by simp at hx,fun i row hi=>by simp at hi⟩
 | row::rows,r,K,hr,hC,hk=>by
  obtain ⟨r1,r2⟩:=hr 0 row rfl
  have hle:r*k+k≤C.size:=by
   simp only[List.length_cons] at hC
   have:(r+1)*k≤(r+(rows.length+1))*k:=Nat.mul_le_mul_right _ (by omega)
   rw[Nat.add_mul] at this;omega
  let us:List Value:=(C.toList.drop (r*k)).take k
  have hus:us.length=row.length:=by simp[us];omega
  have hug:∀ (j:Nat),j < k→us[j]?=C[r*k+j]?:=fun j hj=>by simp[us,List.getElem?_take,hj]
  obtain ⟨l,hs,g1,g2,g3,g4,g5⟩:=holesOf_sound (r:=r) (c:=0) (us:=us) hus (fun j x y hx hy=>by
   have hj:j < k:=by have:=(List.getElem?_eq_some_iff.1 hx).1;omega
   rw[hug j hj] at hy
   exact r2 j x y hx (by simpa using hy)) hk
  obtain ⟨rows',hs2,k1,k2,k3,k4⟩:=holesOfRows_sound (rows:=rows) (r:=r+1) (k:=k) (C:=C) (fun i row hi=>by
   have:=hr (i+1) row (by simpa using hi)
   rwa [show r+(i+1)=r+1+i by omega] at this) (by simp only[List.length_cons] at hC;rwa [show r+1+rows.length=r+(rows.length+1) by omega]) g1
  refine ⟨_,_,k1,by simp[k2],fun x hx=>?_,fun i row' hi=>?_⟩
  ·rcases List.mem_append.1 hx with hx | hx
   ·have:=g3 x hx;omega
   ·have:=k3 x hx;omega
  ·cases i with
   | zero=>
    simp at hi;subst hi
    refine ⟨by omega,fun id j x y hx hy=>?_⟩
    have hj:j < k:=by have:=(List.getElem?_eq_some_iff.1 hx).1;omega
    have:=g5 id j x y hx (by rw[hug j hj];simpa using hy)
    unfold relCell at this⊢
    rw[findHole_append,Nat.add_zero,findHole_none (hs:=hs2) fun x hx=>by have:=k3 x hx;omega,Option.or_none]
    rwa [Nat.zero_add] at this
   | succ i=>
    obtain ⟨d1,d2⟩:=k4 i row' (by simpa using hi)
    refine ⟨d1,fun id j x y hx hy=>?_⟩
    have:=d2 id j x y hx (by rwa [show r+(i+1)=r+1+i by omega] at hy)
    unfold relCell at this⊢
    rw[findHole_append,findHole_none (hs:=hs) fun x hx=>by have:=(g3 x hx).1;omega,Option.none_or,show r+(i+1)=r+1+i by omega]
    exact this
theorem run_buildSlice_op {t e:TypeId} {len k:Nat} {parts:Array (Nat×Value)} {z:Value} {C:Array Value} (hu:P.underlying t=some (.slice e)) (hs:∀ w,(sizeOf e).run P w= .ok k w) (hz:∀ w,(zeroValue e).run P w= .ok z w) (hsz:len*k≤16777216)
  (hf:Instr.fill (fun j=>some (j*k,k)) (madeCells z.cells (len*k)) parts.toList=some C) (w:World):(Instr.buildSlice t len parts).run P w= .ok (.slice (some ⟨w.heap.size,0,none⟩) len len) (w.alloc (.cells C e)):=by
 have hz0:¬ (16777216 < len*k):=by omega
 by_cases h0:len*k=0
 ·have h1:madeCells z.cells (len*k)= #[]:=by rw[h0];simp[madeCells]
  rw[h1] at hf
  have h2:(Array.range 0)= #[]:=by simp
  simp[Instr.buildSlice,run_underlying hu,hs,hz0,h0,newRow]
  rw[h2]
  simp only[Array.map_empty]
  rw[hf]
  simp
 ·unfold madeCells at hf
  simp[Instr.buildSlice,run_underlying hu,hs,hz0,h0,hz,hf,newRow]
theorem ok_buildSlice (T:TOk P tt) {o:Oper} {t e:TypeId} {len:Nat} {parts:Array (Nat×Operand)} {K:Bool→Nat→AV→Heap→Prop} (R:Rel w κ m n s h a) (ho:o.op= .buildSlice t len parts) {i0 i:TI} (ht0:tt t=some i0) (hk0:i0.kind= .slice e) (ht:tt e=some i)
  (hsz:len*i.size≤16777216) (hk:opvP s parts.toList fun ps=>rowsOfParts i.size (List.replicate len i.zero) ps fun rows=>holesOfRows 0 rows fun rows hs=>K false (n+1) (.own n) (upd h n (some (.rows i.size rows hs)))):OpOk P o K w κ m n s h a:=by
 obtain ⟨f,z,h1,h2,hs,hbt,h3,h4,h5,h6⟩:=run_zero T ht
 obtain ⟨_,_,_,_,_,_,_,_,h7,h8,_⟩:=T.info e i ht
 have hu:=T.kind t i0 ht0
 rw[hk0] at hu
 obtain ⟨ps,g1,g2,g3⟩:=relP_get R hk
 let C0:Array Value:=madeCells z.cells (len*i.size)
 have hC0:RR w κ (liveV w κ m n h) i.size (List.replicate len i.zero) C0:=by
  refine ⟨by simp[C0,size_madeCells],fun q row hrow=>?_⟩
  have hq:q < len:=by have:=(List.getElem?_eq_some_iff.1 hrow).1;simpa using this
  rw[List.getElem?_replicate,if_pos hq] at hrow
  injection hrow with hrow;subst hrow
  refine ⟨h5,fun j x y hx hy=>?_⟩
  have hj:j < i.size:=by have:=(List.getElem?_eq_some_iff.1 hx).1;omega
  have hmod:(q*i.size+j) % z.cells.size=j:=by
   rw[h4,Nat.add_comm,Nat.add_mul_mod_self_right,Nat.mod_eq_of_lt hj]
  have:C0[q*i.size+j]?=some (z.cells[j]'(by omega)):=by
   simp[C0,madeCells,rows_lt hq hj,hmod,getElem!_def,show j < z.cells.size by omega]
  rw[this] at hy
  injection hy with hy;subst hy
  exact constB_rel (h6 j x _ hx (by simp[show j < z.cells.size by omega])) _ _ _ _
 obtain ⟨rows',C',k1,k2,k3,k4⟩:=fillRows_sound g2 g3 hC0 g1
 obtain ⟨rows2,hs2,q1,q2,q3,q4⟩:=holesOfRows_sound (r:=0) (k:=i.size) (C:=C') (fun i row hi=>by simpa using k3.2 i row hi) (by rw[k3.1];simp) k2
 have hlen:rows2.length=len:=by rw[q2,k4];simp
 have hCs:C'.size=len*i.size:=by rw[k3.1,k4];simp
 refine ok_new (fr:=(0,0)) (u:= .slice (some ⟨w.heap.size,0,none⟩) rows2.length len) (C:=C') (t:=e) R ?_ q1 (fun κ' m' w' hm hw hκ hI hL=>?_) (fun κ' m' w' hm hw hκ=>own_new hm hw (freeC_none _ _) hκ (by omega) (by rw[hCs];exact Nat.le_refl _))
 ·unfold execOp
  rw[ho]
  dsimp only
  simp only[Sem.run_bind,run_buildSlice_op hu (run_siz T ht) h3 hsz (C:=C') (parts:=parts.map fun (i,x)=>(i,a.eval x)) (by simpa [C0] using k1) w,Result.andThen_ok,Sem.run_pure,hlen]
 ·by_cases hz:len=0
  ·left;exact List.eq_nil_of_length_eq_zero (by omega)
  ·refine .inr ⟨by rw[hm],C',e,(0,0),by rw[hm];exact hw,freeC_none _ _,by rw[hm];exact hκ,?_⟩
   rw[hm]
   refine relHRs_mk fun q row hrow=>?_
   obtain ⟨d1,d2⟩:=q4 q row hrow
   refine ⟨d1,relHRow_mk fun j v hv=>?_⟩
   have hq:q < len:=by have:=(List.getElem?_eq_some_iff.1 hrow).1;omega
   have hj:j < i.size:=by have:=(List.getElem?_eq_some_iff.1 hv).1;omega
   have hlt:q*i.size+j < C'.size:=by rw[hCs];exact rows_lt hq hj
   have hg:C'[q*i.size+j]?=some C'[q*i.size+j]:=Array.getElem?_eq_getElem hlt
   refine ⟨C'[q*i.size+j],by rw[show 0+q*i.size+j=q*i.size+j by omega];exact hg,?_⟩
   have:=d2 n j v _ hv (by rw[Nat.zero_add];exact hg)
   exact relCell_move hI hL (keyMap_fresh R.fresh (Nat.le_refl _)) (by simpa using this)
end
end Go.Proofs.VI
end
section
set_option linter.unusedVariables false
set_option linter.unusedSimpArgs false
namespace Go.Proofs.VI
open Go
section
variable {P:Program} {w w':World} {κ κ':Gh} {m m':Nat→Addr} {n n':Nat} {s:Slots} {h h':Heap} {a:Act} {L L':AV→Value→Prop} {tt:TypeId→Option TI}
theorem run_storeCells_fr (b o:Nat) (t:TypeId) (fr:Nat×Nat) {k:Nat}:∀ (us:List Value) (i:Nat) (C:Array Value) (w:World),w.heap[b]?=some (.cells C t fr)→freeC k C fr→o+i+us.length≤C.size→(∀ v∈us,v.oneCell'=true)→
  (storeCells ⟨b,o,none⟩ us i).run P w= .ok () (w.setRow b ((us.zipIdx i).foldl (fun cs (x:Value×Nat)=>cs.setIfInBounds (o+x.2) x.1) C))
 | [],i,C,w,hg,_,_,_=>by
  have hlt:b < w.heap.size:=(Array.getElem?_eq_some_iff.1 hg).1
  have hv:w.heap[b]= .cells C t fr:=(Array.getElem?_eq_some_iff.1 hg).2
  simp only[storeCells,List.zipIdx_nil,List.foldl_nil]
  show Result.ok () w=_
  congr 1
  unfold World.setRow
  cases w with
  | mk heap tape drawn os output=>
   congr 1
   apply Array.ext
   ·simp
   ·intro k h1 h2
    simp only[Array.getElem_modify]
    split
    ·rename_i hk;subst hk;simp at hv;simp[hv]
    ·rfl
 | v::rest,i,C,w,hg,hfr,hl,h1=>by
  have hi:o+i < C.size:=by simp at hl;omega
  have hcell:w.cell? ⟨b,o+i,none⟩=some C[o+i]:=by simp[World.cell?,hg,hi]
  have hfro:w.frozen? ⟨b,o+i,none⟩=false:=by
   have:=hfr.1 (o+i) hi
   cases e:w.frozen? ⟨b,o+i,none⟩ with
   | false=>rfl
   | true=>simp[World.frozen?,hg] at e;exact absurd e this
  have hst:(Go.store ((⟨b,o,none⟩:Addr).add i) v).run P w= .ok () (w.setRow b (C.setIfInBounds (o+i) v)):=by
   rw[add_plain,run_store P w _ v _ (h1 v (by simp)),hcell]
   simp[hfro,setCell_eq_setRow w b (o+i) C t fr v hg]
  have ih:=run_storeCells_fr b o t fr rest (i+1) (C.setIfInBounds (o+i) v) (w.setRow b (C.setIfInBounds (o+i) v)) (setRow_heap w b C _ t _ hg) (⟨fun j hj=>hfr.1 j (by simpa using hj),fun hk=>by simpa using hfr.2 hk⟩) (by simp at hl⊢;omega) (fun x hx=>h1 x (by simp[hx]))
  simp only[storeCells,Sem.run_bind,hst,Result.andThen_ok,ih,setRow_setRow,List.zipIdx_cons,List.foldl_cons]
theorem keepHoles_sound {box:Bool} {r c N:Nat}:∀ {hs:List Hole} {K:List Hole→Prop},(box=true→∀ x∈hs,x.row=r)→keepHoles hs box r c N K→
  ∃ hs',K hs'∧(∀ x∈hs',x∈hs)∧(∀ c',c≤c'→c' < c+N→findHole hs' r c'=none)∧∀ r' c',¬ (r'=r∧c≤c'∧c' < c+N)→findHole hs' r' c'=findHole hs r' c'
 | [],K,_,hk=>⟨[],hk,fun x hx=>hx,fun _ _ _=>rfl,fun _ _ _=>rfl⟩
 | x::hs,K,hx,hk=>by
  have hx':box=true→∀ y∈hs,y.row=r:=fun hb y hy=>hx hb y (List.mem_cons_of_mem _ hy)
  have stay:¬ (x.row=r∧c≤x.cell∧x.cell < c+N)→keepHoles hs box r c N (fun l=>K (x::l))→∃ hs',K hs'∧(∀ y∈hs',y∈x::hs)∧(∀ c',c≤c'→c' < c+N→findHole hs' r c'=none)∧∀ r' c',¬ (r'=r∧c≤c'∧c' < c+N)→findHole hs' r' c'=findHole (x::hs) r' c':=fun hn hk=>by
   obtain ⟨hs',g1,g2,g3,g4⟩:=keepHoles_sound hx' hk
   refine ⟨_,g1,fun y hy=>?_,fun c' h1 h2=>?_,fun r' c' hc=>?_⟩
   ·rcases List.mem_cons.1 hy with e | hy
    ·rw[e];exact List.mem_cons_self ..
    ·exact List.mem_cons_of_mem _ (g2 y hy)
   ·rw[findHole_cons,if_neg fun e=>hn ⟨e.1,by omega,by omega⟩];exact g3 c' h1 h2
   ·rw[findHole_cons,findHole_cons,g4 r' c' hc]
  have go:x.row=r∧c≤x.cell∧x.cell < c+N→keepHoles hs box r c N K→∃ hs',K hs'∧(∀ y∈hs',y∈x::hs)∧(∀ c',c≤c'→c' < c+N→findHole hs' r c'=none)∧∀ r' c',¬ (r'=r∧c≤c'∧c' < c+N)→findHole hs' r' c'=findHole (x::hs) r' c':=fun hn hk=>by
   obtain ⟨hs',g1,g2,g3,g4⟩:=keepHoles_sound hx' hk
   refine ⟨_,g1,fun y hy=>List.mem_cons_of_mem _ (g2 y hy),g3,fun r' c' hc=>?_⟩
   rw[findHole_cons,if_neg fun e=>hc ⟨by omega,by omega,by omega⟩,g4 r' c' hc]
  simp only[keepHoles] at hk
  cases hq:(Nat.ble c x.cell&&Nat.blt x.cell (c+N)) with
  | false=>
   rw[hq] at hk
   refine stay (fun e=>?_) hk
   have:(Nat.ble c x.cell&&Nat.blt x.cell (c+N))=true:=by
    rw[Bool.and_eq_true];exact ⟨Nat.ble_eq_true_of_le e.2.1,Nat.ble_eq_true_of_le e.2.2⟩
   rw[hq] at this;cases this
  | true=>
   rw[hq] at hk
   rw[Bool.and_eq_true] at hq
   have h1:c≤x.cell:=Nat.le_of_ble_eq_true hq.1
   have h2:x.cell < c+N:=Nat.le_of_ble_eq_true hq.2
   cases box with
   | true=>exact go ⟨hx rfl x (List.mem_cons_self ..),h1,h2⟩ hk
   | false=>
    obtain ⟨b,k1,k2⟩:=hk
    cases b with
    | true=>exact go ⟨k1,h1,h2⟩ k2
    | false=>exact stay (fun e=>k1 e.1) k2
theorem Rel.store (R:Rel w κ m n s h a) {id:Nat} {b:Nat} {C C':Array Value} {t:TypeId} {fr:Nat×Nat} (hb:b=(m id).block) (hκ:κ b=some (.key (id,[]))) (hw:w.heap[b]?=some (.cells C t fr)) (hC:C'.size=C.size) {B':Blk} (hs:shp (some B')=shp (h id)) (hid:id < n)
  (hB:∀ L',(∀ v u,liveV w κ m n h v u→L' v u)→ImmMap w (w.setRow b C') κ κ→(∀ r c,KeyMap w (w.setRow b C') κ κ (some (id,[(r,c)])) (some (id,[(r,c)])))→(w.setRow b C').heap[b]?=some (.cells C' t fr)→relBlk (w.setRow b C') κ m L' id B'):
  Rel (w.setRow b C') κ m n s (upd h id (some B')) a∧Stp κ w κ (w.setRow b C')∧∀ v u,liveV w κ m n h v u→liveV (w.setRow b C') κ m n (upd h id (some B')) v u:=by
 have hne:∀ x,x≠b→(w.setRow b C').heap[x]?=w.heap[x]?:=fun x hx=>setRow_other w b x C' hx
 have hnew:=setRow_heap w b C C' t fr hw
 have hI:ImmMap w (w.setRow b C') κ κ:=fun x hx=>⟨hx,hne x fun e=>by subst e;rw[hκ] at hx;cases hx⟩
 have hkey:∀ K:Key,K≠(id,[])→∀ x,κ x=some (.key K)→(w.setRow b C').heap[x]?=w.heap[x]?:=fun K hK x hx=>hne x fun e=>by subst e;rw[hκ] at hx;injection hx with hx;injection hx with hx;exact hK hx.symm
 have hL:∀ v u,liveV w κ m n h v u→liveV (w.setRow b C') κ m n (upd h id (some B')) v u:=liveV_keep (Nat.le_refl _) fun i hi=>by
  right
  by_cases e:i=id
  ·subst e
   refine ⟨by rw[upd_eq];exact hs,rfl,fun _ _ k N hk=>?_⟩
   obtain ⟨h1,C1,t1,fr1,h2,h3,h4,h5⟩:=hk
   rw[←hb,hw] at h2
   injection h2 with h2;injection h2 with h2 h2' h2'';subst h2;subst h2';subst h2''
   exact ⟨h1,C',t,fr,by rw[←hb];exact hnew,⟨fun j hj=>h3.1 j (by omega),fun hk9=>by have:=h3.2 hk9;omega⟩,h4,by omega⟩
  ·refine ⟨by rw[upd_ne _ _ e],rfl,fun _ _ k N hk=>hk.move fun hx=>⟨hx,hkey _ (fun e2=>by injection e2 with e2 _;exact e e2) _ hx⟩⟩
 refine ⟨R.move hI hL (fun i b' hi=>?_) (fun x g hx=>?_) R.fresh,⟨rfl,rfl,rfl,by simp,fun x hx hK=>hne x fun e=>by subst e;exact hK _ hκ,fun x hx=>hx,fun x _ hx=>hx,fun x C0 t0 fr0 hx=>(by
  by_cases e:x=b
  ·subst e
   rw[hw] at hx;injection hx with hx;injection hx with hx hx' hx'';subst hx;subst hx';subst hx''
   exact ⟨C',hnew,hC⟩
  ·exact ⟨C0,(hne x e).trans hx,rfl⟩)⟩,hL⟩
 ·by_cases e:i=id
  ·subst e
   rw[upd_eq] at hi
   injection hi with hi;subst hi
   exact ⟨hid,hB _ hL hI (fun r c=>⟨_,rfl,fun q x hx=>⟨hx,hkey _ (by simp) _ hx⟩⟩) hnew⟩
  ·rw[upd_ne _ _ e] at hi
   refine ⟨(R.blk i b' hi).1,relBlk_move hI hL ⟨_,rfl,fun q x hx=>⟨hx,hkey _ (fun e2=>by injection e2 with e2 _;exact e e2) _ hx⟩⟩ rfl (R.blk i b' hi).2⟩
 ·have:=R.low x g hx;simpa using this
theorem storeRun (T:TOk P tt) {o:Oper} {t:TypeId} {x y:Operand} (ho:o.op= .store t x y) {i:TI} (ht:tt t=some i) {b off:Nat} {C:Array Value} {t0:TypeId} {fr:Nat×Nat} (hx:a.eval x= .pointer (some ⟨b,off,none⟩)) (hw:w.heap[b]?=some (.cells C t0 fr)) {k:Nat} (hfr:freeC k C fr)
  (hsz:(a.eval y).cells.size=i.size) (hoff:off+i.size≤C.size) (h1:∀ v∈(a.eval y).cells.toList,v.oneCell'=true):
  ∃ C',(execOp a.eval o).run P w= .ok .skip (w.setRow b C')∧C'.size=C.size∧∀ k,C'[k]?=if off≤k∧k < off+i.size then (a.eval y).cells.toList[k - off]? else C[k]?:=by
 have hl:(a.eval y).cells.toList.length=i.size:=by simpa using hsz
 obtain ⟨g1,g2⟩:=fold_set off (a.eval y).cells.toList 0 C (by rw[hl];omega)
 refine ⟨_,?_,g1,fun k=>?_⟩
 ·unfold execOp
  rw[ho]
  dsimp only
  have:=run_storeCells_fr (P:=P) b off t0 fr (a.eval y).cells.toList 0 C w hw hfr (by rw[hl];omega) h1
  rw[hx]
  simp only[Sem.run_bind,Instr.storeAt,sure,Result.andThen_ok,storeVar,run_siz T ht,hsz,ne_eq,not_true_eq_false,if_false,Sem.run_pure,this]
 ·have:=g2 k
  rw[hl] at this
  simpa using this
theorem cells_store {id r r' c c' N:Nat} {hs hs' hs2:List Hole} (h2:∀ x∈hs2,x.row=r∧c≤x.cell∧x.cell < c+N) (h3:∀ c',c≤c'→c' < c+N→findHole hs' r c'=none) (h4:∀ r' c',¬ (r'=r∧c≤c'∧c' < c+N)→findHole hs' r' c'=findHole hs r' c')
  (hI:ImmMap w w' κ κ') (hL:∀ v u,L v u→L' v u) (hK:∀ r c,KeyMap w w' κ κ' (some (id,[(r,c)])) (some (id,[(r,c)]))) {v:AV} {u:Value}:
  (r'=r∧c≤c'∧c' < c+N→relCell w κ L id hs2 r' c' v u→relCell w' κ' L' id (hs2++hs') r' c' v u)∧
  (¬ (r'=r∧c≤c'∧c' < c+N)→relCell w κ L id hs r' c' v u→relCell w' κ' L' id (hs2++hs') r' c' v u):=by
 constructor
 ·rintro ⟨rfl,k1,k2⟩ hc
  have:=relCell_move hI hL (hK _ _) hc
  unfold relCell at this⊢
  rw[findHole_append,h3 c' k1 k2,Option.or_none]
  exact this
 ·intro hn hc
  have:=relCell_move hI hL (hK _ _) hc
  unfold relCell at this⊢
  rw[findHole_append,findHole_none (hs:=hs2) fun x hx e=>hn (by have:=h2 x hx;omega),Option.none_or,h4 r' c' hn]
  exact this
theorem ok_unit {o:Oper} {K:Bool→Nat→AV→Heap→Prop} (hr:(execOp a.eval o).run P w= .ok .skip w') {h':Heap} (R:Rel w' κ m n s h' a) (S:Stp κ w κ w'∧∀ v u,liveV w κ m n h v u→liveV w' κ m n h' v u) (hk:K true n .und h'):OpOk P o K w κ m n s h a:=by
 unfold OpOk Oper.wp
 rw[hr]
 exact ⟨true,n,.und,h',κ,m,undef,hk,Nat.le_refl _,rfl,trivial,R,S.1,fun e=>(by cases e),fun j hj _=>rfl,S.2⟩
theorem ok_store_box (T:TOk P tt) {o:Oper} {t:TypeId} {x y:Operand} {K:Bool→Nat→AV→Heap→Prop} (R:Rel w κ m n s h a) (ho:o.op= .store t x y) {i:TI} (ht:tt t=some i) {id r c:Nat} {row:List AV} {hs:List Hole}
  (hb:h id=some (.box row hs)) (hx:relV w κ (liveV w κ m n h) none (.ptr id r c) (a.eval x)) {v:AV} (hy:relV w κ (liveV w κ m n h) none v (a.eval y)) (hsz:v.cells.length=i.size)
  (hk:keepHoles hs true 0 c i.size fun hs=>holesOf 0 c v.cells fun cs hs2=>setCells row c cs fun row=>K true n .und (upd h id (some (.box row (hs2++hs))))):OpOk P o K w κ m n s h a:=by
 obtain ⟨hid,hB⟩:=R.blk id _ hb
 obtain ⟨h0,hsp,C,t0,fr,hw,hfr,hκ,hrow⟩:=hB
 have hp:a.eval x= .pointer (some ⟨(m id).block,(m id).off+c,none⟩):=by
  have hx:liveV w κ m n h (.ptr id r c) (a.eval x):=hx
  obtain ⟨_,_,hx⟩:=hx
  rw[hb] at hx
  exact hx
 obtain ⟨hs',hk,k2,k3,k4⟩:=keepHoles_sound (fun _=>h0) hk
 obtain ⟨e1,e2⟩:=holesOf_ne hk
 obtain ⟨c1,c2⟩:=relV_cells hy e1 e2
 obtain ⟨l,hs2,hk,g2,g3,g4,g5⟩:=holesOf_sound c1 c2 hk
 obtain ⟨row',hk,s1,s2,s3⟩:=setCells_sound hk
 rw[g2,hsz] at s2 s3
 have hN:0 < i.size:=by obtain ⟨_,_,_,_,_,_,_,_,h7,_⟩:=T.info t i ht;omega
 have hCr:(m id).off+row.length≤C.size:=relHRow_len hrow (fun e=>by rw[e] at s2;simp at s2;omega)
 obtain ⟨C',hrun,f1,f2⟩:=storeRun T ho ht (y:=y) hp hw hfr (by rw[←hsz];simpa using c1) (by omega) g4
 obtain ⟨R',S'⟩:=R.store (B':= .box row' (hs2++hs')) rfl hκ hw f1 (by rw[hb];rfl) hid (fun L' hL hI hK hw'=>by
  refine ⟨fun z hz=>?_,hsp,C',t0,fr,hw',⟨fun j hj=>hfr.1 j (by omega),fun hk9=>by have:=hfr.2 hk9;omega⟩,hκ,relHRow_mk fun j z hz=>?_⟩
  ·rcases List.mem_append.1 hz with hz | hz
   ·exact (g3 z hz).1
   ·exact h0 z (k2 z hz)
  ·have hj:j < row'.length:=(List.getElem?_eq_some_iff.1 hz).1
   have hcs:=fun v u=>cells_store (v:=v) (u:=u) (id:=id) (r:=0) (r':=0) (c:=c) (c':=j) (N:=i.size) (hs:=hs) (by rw[hsz] at g3;exact g3) k3 k4 hI hL hK
   rw[s3] at hz
   rw[f2,Nat.zero_add]
   by_cases e:c≤j∧j < c+i.size
   ·rw[if_pos e] at hz
    rw[if_pos (by omega)]
    have hjl:j - c < (a.eval y).cells.toList.length:=by omega
    have hidx:(m id).off+j - ((m id).off+c)=j - c:=by omega
    refine ⟨(a.eval y).cells.toList[j - c],by rw[hidx];exact List.getElem?_eq_getElem hjl,(hcs _ _).1 ⟨rfl,e.1,e.2⟩ ?_⟩
    have:=g5 id (j - c) z _ hz (List.getElem?_eq_getElem hjl)
    rwa [show c+(j - c)=j by omega] at this
   ·rw[if_neg e] at hz
    rw[if_neg (by omega)]
    obtain ⟨u,hu,hr⟩:=relHRow_get hrow hz
    rw[Nat.zero_add] at hr
    exact ⟨u,hu,(hcs _ _).2 (fun e2=>e e2.2) hr⟩)
 exact ok_unit hrun R' S' hk
theorem ok_store_rows (T:TOk P tt) {o:Oper} {t:TypeId} {x y:Operand} {K:Bool→Nat→AV→Heap→Prop} (R:Rel w κ m n s h a) (ho:o.op= .store t x y) {i:TI} (ht:tt t=some i) {id r c k:Nat} {rs:List (List AV)} {row:List AV} {hs:List Hole}
  (hb:h id=some (.rows k rs hs)) (hr:rs[r]?=some row) (hx:relV w κ (liveV w κ m n h) none (.ptr id r c) (a.eval x)) {v:AV} (hy:relV w κ (liveV w κ m n h) none v (a.eval y)) (hsz:v.cells.length=i.size)
  (hk:keepHoles hs false r c i.size fun hs=>holesOf r c v.cells fun cs hs2=>setCells row c cs fun row=>K true n .und (upd h id (some (.rows k (rs.set r row) (hs2++hs))))):OpOk P o K w κ m n s h a:=by
 obtain ⟨hid,hB⟩:=R.blk id _ hb
 have hrl:r < rs.length:=(List.getElem?_eq_some_iff.1 hr).1
 rcases hB with e | ⟨hsp,C,t0,fr,hw,hfr,hκ,hrows⟩
 ·subst e;simp at hrl
 have hp:a.eval x= .pointer (some ⟨(m id).block,(m id).off+(r*k+c),none⟩):=by
  have hx:liveV w κ m n h (.ptr id r c) (a.eval x):=hx
  obtain ⟨_,_,hx⟩:=hx
  rw[hb] at hx
  exact hx
 obtain ⟨hs',hk,k2,k3,k4⟩:=keepHoles_sound (fun e=>by cases e) hk
 obtain ⟨e1,e2⟩:=holesOf_ne hk
 obtain ⟨c1,c2⟩:=relV_cells hy e1 e2
 obtain ⟨l,hs2,hk,g2,g3,g4,g5⟩:=holesOf_sound c1 c2 hk
 obtain ⟨row',hk,s1,s2,s3⟩:=setCells_sound hk
 rw[g2,hsz] at s2 s3
 have hN:0 < i.size:=by obtain ⟨_,_,_,_,_,_,_,_,h7,_⟩:=T.info t i ht;omega
 obtain ⟨hrk,hrow⟩:=relHRs_get hrows hr
 have hCr:(m id).off+r*k+row.length≤C.size:=relHRow_len hrow (fun e=>by rw[e] at s2;simp at s2;omega)
 obtain ⟨C',hrun,f1,f2⟩:=storeRun T ho ht (y:=y) hp hw hfr (by rw[←hsz];simpa using c1) (by omega) g4
 obtain ⟨R',S'⟩:=R.store (B':= .rows k (rs.set r row') (hs2++hs')) rfl hκ hw f1 (by rw[hb];simp[shp]) hid (fun L' hL hI hK hw'=>by
  refine .inr ⟨hsp,C',t0,fr,hw',⟨fun j hj=>hfr.1 j (by omega),fun hk9=>by have:=hfr.2 hk9;omega⟩,hκ,relHRs_mk fun q rw' hq=>?_⟩
  rw[Nat.zero_add]
  by_cases eq:q=r
  ·subst eq
   rw[List.getElem?_set_self hrl] at hq
   injection hq with hq;subst hq
   refine ⟨by omega,relHRow_mk fun j z hz=>?_⟩
   have hj:j < row'.length:=(List.getElem?_eq_some_iff.1 hz).1
   have hcs:=fun v u=>cells_store (v:=v) (u:=u) (id:=id) (r:=q) (r':=q) (c:=c) (c':=j) (N:=i.size) (hs:=hs) (by rw[hsz] at g3;exact g3) k3 k4 hI hL hK
   rw[s3] at hz
   rw[f2,Nat.zero_add]
   by_cases e:c≤j∧j < c+i.size
   ·rw[if_pos e] at hz
    rw[if_pos (by omega)]
    have hjl:j - c < (a.eval y).cells.toList.length:=by omega
    have hidx:(m id).off+q*k+j - ((m id).off+(q*k+c))=j - c:=by omega
    refine ⟨(a.eval y).cells.toList[j - c],by rw[hidx];exact List.getElem?_eq_getElem hjl,(hcs _ _).1 ⟨rfl,e.1,e.2⟩ ?_⟩
    have:=g5 id (j - c) z _ hz (List.getElem?_eq_getElem hjl)
    rwa [show c+(j - c)=j by omega] at this
   ·rw[if_neg e] at hz
    rw[if_neg (by omega)]
    obtain ⟨u,hu,hr⟩:=relHRow_get hrow hz
    rw[Nat.zero_add,Nat.zero_add] at hr
    exact ⟨u,hu,(hcs _ _).2 (fun e2=>e e2.2) hr⟩
  ·rw[List.getElem?_set_ne (Ne.symm eq)] at hq
   obtain ⟨d1,d2⟩:=relHRs_get hrows hq
   refine ⟨d1,relHRow_mk fun j z hz=>?_⟩
   have hj:j < k:=by have:=(List.getElem?_eq_some_iff.1 hz).1;omega
   have hcs:=fun v u=>cells_store (v:=v) (u:=u) (id:=id) (r:=r) (r':=q) (c:=c) (c':=j) (N:=i.size) (hs:=hs) (by rw[hsz] at g3;exact g3) k3 k4 hI hL hK
   obtain ⟨u,hu,hr⟩:=relHRow_get d2 hz
   rw[Nat.zero_add] at hr
   rw[Nat.zero_add] at hr⊢
   refine ⟨u,?_,(hcs _ _).2 (fun e2=>eq e2.1) hr⟩
   rw[f2,if_neg (fun e2=>by
    have:=rows_ne (i:=q) (i':=r) (j:=j) (j':=(m id).off+q*k+j - ((m id).off+r*k)) (k:=k) eq hj (by omega)
    omega)]
   exact hu)
 exact ok_unit hrun R' S' hk
end
end Go.Proofs.VI
end
section
set_option linter.unusedVariables false
set_option linter.unusedSimpArgs false
namespace Go.Proofs.VI
open Go
section
variable {P:Program} {w w':World} {κ κ':Gh} {m m':Nat→Addr} {n n':Nat} {s:Slots} {h h':Heap} {a:Act} {L L':AV→Value→Prop} {tt:TypeId→Option TI}
theorem relRow_any {C:Array Value}:∀ {cs:List AV} {r c r' c' o:Nat},relRow w κ none r c cs C o→relRow w κ none r' c' cs C o
 | [],_,_,_,_,_,_=>trivial
 | v::cs,r,c,r',c',o,h=>⟨h.1,relRow_any h.2⟩
theorem ptr_addr {id r c:Nat} {u:Value} (hx:relV w κ (liveV w κ m n h) none (.ptr id r c) u) {B:Blk} (hb:h id=some B):u= .pointer (some ⟨(m id).block,(m id).off+cellOff B r c,none⟩):=by
 have hx:liveV w κ m n h (.ptr id r c) u:=hx
 obtain ⟨_,_,hx⟩:=hx
 rw[hb] at hx
 cases B<;>exact hx
theorem addr_ptr {id r c:Nat} {B:Blk} (hb:h id=some B) (hid:id < n):relV w κ (liveV w κ m n h) none (.ptr id r c) (.pointer (some ⟨(m id).block,(m id).off+cellOff B r c,none⟩)):=by
 show liveV w κ m n h (.ptr id r c) _
 refine ⟨hid,⟨_,rfl⟩,?_⟩
 rw[hb]
 cases B<;>rfl
theorem fieldAt_run {t:TypeId} {fields:Array Field} (hu:P.underlying t=some (.struct fields)) {f:Nat} {fd:Field} (hf:fields[f]?=some fd) {fi:TypeInfo} (hi:P.info? fd.type=some fi) (h0:fi.size≠0) (b off:Nat):
  (Instr.fieldAt t (.pointer (some ⟨b,off,none⟩)) f).run P w= .ok (.pointer (some ⟨b,off+fd.offset,none⟩)) w:=by
 have hs:(sizeOf fd.type).run P w= .ok fi.size w:=by simp[sizeOf,run_inf hi]
 simp[Instr.fieldAt,run_underlying hu,hf,Instr.sureAddr,fieldPlace,hs,h0,add_plain]
theorem ok_fieldAddr (T:TOk P tt) {o:Oper} {t:TypeId} {x:Operand} {f:Nat} {K:Bool→Nat→AV→Heap→Prop} (R:Rel w κ m n s h a) (ho:o.op= .fieldAddr t x f) {i:TI} (ht:tt t=some i) {fs:List (Nat×TypeId)} (hk0:i.kind= .struct fs) {off:Nat} {ft:TypeId} (hf:fs[f]?=some (off,ft))
  (hk:opv s x fun v=>(match v with | .ptr id r c=>(match h id with | some _=>K false n (.ptr id r (c+off)) h | none=>False) | .rp row c=>K false n (.rp row (c+off)) h | _=>False)):OpOk P o K w κ m n s h a:=by
 have hu:=T.kind t i ht
 rw[hk0] at hu
 obtain ⟨fields,hu,hfs,hall⟩:=hu
 obtain ⟨fd,hfd,hoff⟩:∃ fd,fields[f]?=some fd∧fd.offset=off:=by
  subst hfs
  rw[List.getElem?_map] at hf
  cases hq:fields.toList[f]? with
  | none=>rw[hq] at hf;cases hf
  | some fd=>rw[hq] at hf;simp at hf;exact ⟨fd,by simpa using hq,hf.1⟩
 obtain ⟨fi,hi,h0⟩:=hall fd (by have:=Array.mem_of_getElem? hfd;simpa using this)
 obtain ⟨v,hk,hv⟩:=opv_sound R hk
 have run:∀ b o0,a.eval x= .pointer (some ⟨b,o0,none⟩)→(execOp a.eval o).run P w= .ok (.value (.pointer (some ⟨b,o0+off,none⟩))) w:=fun b o0 e=>by
  unfold execOp
  rw[ho]
  simp only[e,Sem.run_bind,fieldAt_run hu hfd hi h0,Result.andThen_ok,Sem.run_pure,hoff]
 cases v<;>simp only at hk
 case ptr id r c=>
  cases hb:h id with
  | none=>rw[hb] at hk;exact hk.elim
  | some B=>
   rw[hb] at hk
   have hx:=ptr_addr hv hb
   have:=addr_ptr (w:=w) (κ:=κ) (m:=m) (n:=n) (r:=r) (c:=c+off) hb (R.blk id B hb).1
   refine OpOk.value R (run _ _ hx) hk ?_
   have e:cellOff B r (c+off)=cellOff B r c+off:=by cases B<;>simp[cellOff];omega
   rwa [e,←Nat.add_assoc] at this
 case rp row c=>
  obtain ⟨b,o0,C,t0,fr,hx,hw,hκ,hr⟩:=hv
  exact OpOk.value R (run _ _ hx) hk ⟨b,o0,C,t0,fr,by rw[Nat.add_assoc],hw,hκ,hr⟩
theorem ok_nilCheck {o:Oper} {x:Operand} {K:Bool→Nat→AV→Heap→Prop} (R:Rel w κ m n s h a) (ho:o.op= .nilCheck x)
  (hk:opv s x fun v=>match v with | .ptr i r c=>(match h i with | some _=>K false n (.ptr i r c) h | none=>False) | .rp r c=>K false n (.rp r c) h | .fn f c=>K false n (.fn f c) h | _=>False):OpOk P o K w κ m n s h a:=by
 obtain ⟨v,hk,hv⟩:=opv_sound R hk
 have key:∀ v,relV w κ (liveV w κ m n h) none v (a.eval x)→K false n v h→((∃ ad,a.eval x= .pointer (some ad))∨∃ f c d,a.eval x= .func (.func f) c d)→OpOk P o K w κ m n s h a:=fun v hv hk hx=>by
  refine OpOk.value R (u:=a.eval x) ?_ hk hv
  unfold execOp
  rw[ho]
  rcases hx with ⟨ad,e⟩ | ⟨f,c,d,e⟩<;>simp[e]
 cases v<;>simp only at hk
 case ptr id r c=>
  cases hb:h id with
  | none=>rw[hb] at hk;exact hk.elim
  | some B=>
   rw[hb] at hk
   exact key _ hv hk (.inl ⟨_,ptr_addr hv hb⟩)
 case rp row c=>
  have hv':=hv
  obtain ⟨b,o0,C,t0,fr,hx,_⟩:=hv
  exact key _ hv' hk (.inl ⟨_,hx⟩)
 case fn f c=>
  have hv':=hv
  obtain ⟨vs,hx,_⟩:=hv
  exact key _ hv' hk (.inr ⟨_,_,_,hx⟩)
theorem ok_extract {o:Oper} {x:Operand} {j:Nat} {K:Bool→Nat→AV→Heap→Prop} (R:Rel w κ m n s h a) (ho:o.op= .extract x j)
  (hk:opv s x fun x=>match x with | .tup vs=>(match vs[j]? with | some v=>K false n v h | none=>False) | _=>False):OpOk P o K w κ m n s h a:=by
 obtain ⟨v,hk,hv⟩:=opv_sound R hk
 cases v<;>simp only at hk
 case tup vs=>
  obtain ⟨us,hx,hr⟩:=hv
  obtain ⟨g1,g2⟩:=relL_get hr
  cases hj:vs[j]? with
  | none=>rw[hj] at hk;exact hk.elim
  | some v=>
   rw[hj] at hk
   have hlt:j < us.length:=by have:=(List.getElem?_eq_some_iff.1 hj).1;omega
   refine OpOk.value R (u:=us[j]) ?_ hk (by simpa [kid] using g2 j v _ hj (List.getElem?_eq_getElem hlt))
   unfold execOp
   rw[ho]
   simp[hx,Instr.extract,hlt]
theorem ok_makeFunc {o:Oper} {f:FuncId} {first captured:Array Operand} {K:Bool→Nat→AV→Heap→Prop} (R:Rel w κ m n s h a) (ho:o.op= .makeFunc (.func f) first captured) (hf:first.toList=[])
  (hk:opvs s captured.toList fun vs=>K false n (.fn f vs) h):OpOk P o K w κ m n s h a:=by
 obtain ⟨vs,hk,hv⟩:=opvs_sound (K:=fun _=>True) R hk
 refine OpOk.value R (u:= .func (.func f) #[] (captured.toList.map a.eval).toArray) ?_ hk ⟨_,rfl,hv 0⟩
 have:first= #[]:=by simpa using hf
 subst this
 unfold execOp
 rw[ho]
 simp[Instr.makeFunc]
 exact Array.ext' (by simp)
theorem ok_field (T:TOk P tt) {o:Oper} {t:TypeId} {x:Operand} {f:Nat} {K:Bool→Nat→AV→Heap→Prop} (R:Rel w κ m n s h a) (ho:o.op= .field t x f) {i j:TI} (ht:tt t=some i) {fs:List (Nat×TypeId)} (hk0:i.kind= .struct fs) {off:Nat} {ft:TypeId} (hf:fs[f]?=some (off,ft)) (htj:tt ft=some j)
  (hk:opv s x fun v=>(match v with | .agg cs=>takeN cs off j.size fun cs=>ofCells j cs fun v=>K false n v h | _=>False)):OpOk P o K w κ m n s h a:=by
 have hu:=T.kind t i ht
 rw[hk0] at hu
 obtain ⟨fields,hu,hfs,hall⟩:=hu
 obtain ⟨fd,hfd,hoff,hft⟩:∃ fd,fields[f]?=some fd∧fd.offset=off∧fd.type=ft:=by
  subst hfs
  rw[List.getElem?_map] at hf
  cases hq:fields.toList[f]? with
  | none=>rw[hq] at hf;cases hf
  | some fd=>rw[hq] at hf;simp at hf;exact ⟨fd,by simpa using hq,hf.1,hf.2⟩
 subst hoff;subst hft
 obtain ⟨v,hk,hv⟩:=opv_sound R hk
 cases v<;>simp only at hk
 case agg cs=>
  obtain ⟨us,hx,hr⟩:=hv
  obtain ⟨g1,g2⟩:=relL_get hr
  obtain ⟨cs',hk,hl,hg⟩:=takeN_sound hk
  obtain ⟨_,_,_,_,_,_,_,_,hsz,_⟩:=T.info _ j htj
  let vs:List Value:=(us.drop fd.offset).take j.size
  have hvs:∀ q u,vs[q]?=some u→us[fd.offset+q]?=some u:=fun q u hq=>by
   have hq2:q < j.size:=by
    have:=(List.getElem?_eq_some_iff.1 hq).1
    simp[vs] at this;omega
   simp only[vs,List.getElem?_take] at hq
   rw[if_pos hq2,List.getElem?_drop] at hq
   exact hq
  have hle:fd.offset+j.size≤us.length:=by
   have:cs'[j.size - 1]?=some cs'[j.size - 1]:=List.getElem?_eq_getElem (by omega)
   have:=(List.getElem?_eq_some_iff.1 (hg _ _ this)).1
   omega
  have hlen:vs.length=j.size:=by simp[vs];omega
  obtain ⟨v,hv,hrel⟩:=ofCells_sound (w:=w) (κ:=κ) (t:=j) (vs:=vs) (L:=liveV w κ m n h) (by omega) (fun q v u hq hu=>by
   have:=g2 (fd.offset+q) v u (hg q v hq) (hvs q u hu)
   simpa [kid] using this) hk
  refine OpOk.value R ?_ hv hrel
  unfold execOp
  rw[ho]
  simp only[Instr.field,Sem.run_bind,run_underlying hu,Result.andThen_ok,hfd,hx,asAgg,part,run_agg T htj,Sem.run_pure]
  cases hs:isStruct j with
  | true=>
   have e:us.toArray.extract fd.offset (fd.offset+j.size)=vs.toArray:=by
    apply Array.ext'
    simp[vs,List.extract_eq_take_drop]
   simp[run_siz T htj,e]
   rfl
  | false=>
   have e:us[fd.offset]?=some (vs.getD 0 undef):=by
    have:vs[0]?=some (vs.getD 0 undef):=by
     have:0 < vs.length:=by omega
     simp[List.getD,List.getElem?_eq_getElem this]
    simpa using hvs 0 _ this
   simp[e]
theorem own_slice {id:Nat} {u:Value} {k:Nat} {rs:List (List AV)} {hs:List Hole} (hv:relV w κ (liveV w κ m n h) none (.own id) u) (hb:h id=some (.rows k rs hs)):
  ∃ A cap,u= .slice A rs.length cap∧rs.length≤cap∧(cap=0∨(A=some (m id)∧HasBlk w κ (m id) id k (cap*k))):=by
 have hv:liveV w κ m n h (.own id) u:=hv
 obtain ⟨_,_,hv⟩:=hv
 rw[hb] at hv
 exact hv
theorem sl_slice {id off len:Nat} {u:Value} {k:Nat} {rs:List (List AV)} {hs:List Hole} (hv:relV w κ (liveV w κ m n h) none (.sl id off len) u) (hb:h id=some (.rows k rs hs)):
  off+len≤rs.length∧∃ A cap,u= .slice A len cap∧len≤cap∧(cap=0∨(A=some ⟨(m id).block,(m id).off+off*k,none⟩∧HasBlk w κ (m id) id k ((off+cap)*k))):=by
 have hv:liveV w κ m n h (.sl id off len) u:=hv
 obtain ⟨_,_,hv⟩:=hv
 rw[hb] at hv
 exact hv
theorem indexAt_run {t e:TypeId} (hu:P.underlying t=some (.slice e)) {k:Nat} (hs:∀ w,(sizeOf e).run P w= .ok k w) {b off:Nat} {len cap:Nat} {q:IntKind} {i:Int} (h0:0≤i) (h1:i < len):
  (Instr.indexAt t (.slice (some ⟨b,off,none⟩) len cap) (.int q i)).run P w= .ok (.pointer (some ⟨b,off+i.toNat*k,none⟩)) w:=by
 simp[Instr.indexAt,asIntOf,run_underlying hu,h0,h1,hs,add_plain]
theorem ok_indexAddr (T:TOk P tt) {o:Oper} {t e:TypeId} {x y:Operand} {K:Bool→Nat→AV→Heap→Prop} (R:Rel w κ m n s h a) (ho:o.op= .indexAddr t x y) {i0 i:TI} (ht0:tt t=some i0) (hk0:i0.kind= .slice e) (ht:tt e=some i)
  (hk:opv s x fun x=>opv s y fun y=>match y with
  | .int _ j=>(match x with
   | .ro k rows=>0≤j∧∃ row,rows[j.toNat]?=some row∧bif Nat.beq k i.size then K false n (.rp row 0) h else False
   | .own id=>(match h id with | some (.rows k rs _)=>0≤j∧j < rs.length∧bif Nat.beq k i.size then K false n (.ptr id j.toNat 0) h else False | _=>False)
   | .sl id off len=>(match h id with | some (.rows k _ _)=>0≤j∧j < len∧bif Nat.beq k i.size then K false n (.ptr id (off+j.toNat) 0) h else False | _=>False)
   | _=>False)
  | _=>False):OpOk P o K w κ m n s h a:=by
 have hu:=T.kind t i0 ht0
 rw[hk0] at hu
 obtain ⟨v,hk1,hv⟩:=opv_sound R hk
 obtain ⟨y',hk2,hy⟩:=opv_sound R hk1
 clear hk1 hk
 have hk:=hk2
 clear hk2
 cases y'<;>simp only at hk
 case int q j=>
  have hy:a.eval y= .int q j:=hy
  have run:∀ {b off len cap:Nat},a.eval x= .slice (some ⟨b,off,none⟩) len cap→0≤j→j < len→(execOp a.eval o).run P w= .ok (.value (.pointer (some ⟨b,off+j.toNat*i.size,none⟩))) w:=fun e h0 h1=>by
   unfold execOp
   rw[ho]
   simp only[e,hy,Sem.run_bind,indexAt_run hu (run_siz T ht) h0 h1,Result.andThen_ok,Sem.run_pure]
  cases v<;>simp only at hk
  case ro k rows=>
   obtain ⟨h0,row,hrow,hk⟩:=hk
   cases hq:Nat.beq k i.size with
   | false=>rw[hq] at hk;exact hk.elim
   | true=>
    rw[hq] at hk
    have hq:=Nat.eq_of_beq_eq_true hq
    obtain ⟨A,cap,hx,hcap,hr⟩:=hv
    have hlt:j.toNat < rows.length:=(List.getElem?_eq_some_iff.1 hrow).1
    rcases hr with e | ⟨b,off,C,t0,fr,hA,hw,hκ,hr⟩
    ·subst e;simp at hlt
    ·subst hA
     obtain ⟨g1,g2⟩:=relRs_get hr hrow
     refine OpOk.value R (run hx h0 (by omega)) hk ⟨b,off+j.toNat*i.size,C,t0,fr,rfl,hw,hκ,?_⟩
     rw[←hq]
     exact relRow_any g2
  case own id=>
   split at hk
   ·rename_i k rs hs hb
    obtain ⟨h0,h1,hk⟩:=hk
    cases hq:Nat.beq k i.size with
    | false=>rw[hq] at hk;exact hk.elim
    | true=>
     rw[hq] at hk
     have hq:=Nat.eq_of_beq_eq_true hq
     obtain ⟨A,cap,hx,hcap,hr⟩:=own_slice hv hb
     rcases hr with e | ⟨hA,hB⟩
     ·omega
     ·subst hA
      have hm:m id=⟨(m id).block,(m id).off,none⟩:=by
       have:=hB.1
       cases hh:m id with | mk b o sp=>rw[hh] at this;simp at this;simp[this]
      rw[hm] at hx
      have:=addr_ptr (w:=w) (κ:=κ) (m:=m) (n:=n) (r:=j.toNat) (c:=0) hb (R.blk id _ hb).1
      refine OpOk.value R (run hx h0 h1) hk ?_
      simpa [cellOff,hq] using this
   ·exact hk.elim
  case sl id off len=>
   split at hk
   ·rename_i k rs hs hb
    obtain ⟨h0,h1,hk⟩:=hk
    cases hq:Nat.beq k i.size with
    | false=>rw[hq] at hk;exact hk.elim
    | true=>
     rw[hq] at hk
     have hq:=Nat.eq_of_beq_eq_true hq
     obtain ⟨hle,A,cap,hx,hcap,hr⟩:=sl_slice hv hb
     rcases hr with e | ⟨hA,hB⟩
     ·omega
     ·subst hA
      have:=addr_ptr (w:=w) (κ:=κ) (m:=m) (n:=n) (r:=off+j.toNat) (c:=0) hb (R.blk id _ hb).1
      refine OpOk.value R (run hx h0 h1) hk ?_
      have e:(m id).off+off*k+j.toNat*i.size=(m id).off+cellOff (.rows k rs hs) (off+j.toNat) 0:=by
       simp only[cellOff,Nat.add_mul,hq];omega
      rw[e]
      exact this
   ·exact hk.elim
theorem byteAt_get {s:ByteArray} {i:Int} (h0:0≤i) (h1:i < s.size):∃ b,s[i.toNat]?=some b∧byteAt s i=(b.toNat:Int):=by
 have hlt:i.toNat < s.size:=by omega
 refine ⟨s[i.toNat],by simp[hlt],?_⟩
 unfold byteAt
 congr 2
 have hl:i.toNat < s.data.toList.length:=by simpa using hlt
 rw[List.getD,List.getElem?_eq_getElem hl]
 simp
 rfl
theorem ok_index (T:TOk P tt) {o:Oper} {t:TypeId} {x y:Operand} {K:Bool→Nat→AV→Heap→Prop} (R:Rel w κ m n s h a) (ho:o.op= .index t x y) {i0:TI} (ht0:tt t=some i0) (hk0:i0.kind= .str)
  (hk:opv s x fun x=>opv s y fun y=>match x,y with
   | .str s,.int _ i=>0≤i∧i < s.size∧K false n (.int .u8 (byteAt s i)) h
   | _,_=>False):OpOk P o K w κ m n s h a:=by
 have hu:=T.kind t i0 ht0
 rw[hk0] at hu
 obtain ⟨v,hk1,hv⟩:=opv_sound R hk
 obtain ⟨y',hk2,hy⟩:=opv_sound R hk1
 clear hk1 hk
 have hk:=hk2
 clear hk2
 split at hk
 ·rename_i b q i
  obtain ⟨h0,h1,hk⟩:=hk
  have hy:a.eval y= .int q i:=hy
  have hv:a.eval x= .string b:=hv
  obtain ⟨c,hc,e⟩:=byteAt_get h0 h1
  refine OpOk.value R (u:= .int .u8 c.toNat) ?_ hk (by show _=_;rw[e])
  unfold execOp
  rw[ho]
  simp[hv,hy,Instr.index,asIntOf,run_underlying hu,h0,hc]
 ·exact hk.elim
theorem ok_len (T:TOk P tt) {o:Oper} {c:Call} {t:TypeId} {ts:List TypeId} {x:Operand} {K:Bool→Nat→AV→Heap→Prop} (R:Rel w κ m n s h a) (ho:o.op= .call c) (hc:c.callee= .builtin .len) (hts:c.argTypes.toList=t::ts) (hxs:c.args.toList=[x])
  {i:TI} (ht:tt t=some i) {v:AV} (hv:relV w κ (liveV w κ m n h) none v (a.eval x)) (hk:lenV i v h fun v=>K false n v h):OpOk P o K w κ m n s h a:=by
 have hu:=T.kind t i ht
 have hts':c.argTypes[0]?=some t:=by
  have:c.argTypes.toList[0]?=some t:=by rw[hts];rfl
  simpa using this
 have hxs':c.args= #[x]:=by
  apply Array.ext';rw[hxs]
 have key:∀ (N:Nat),(∀ w,(Builtin.len_ c.argTypes o.type #[a.eval x]).run P w= .ok (goInt N) w)→K false n (.int .i64 N) h→OpOk P o K w κ m n s h a:=fun N hr hk=>by
  refine OpOk.value R (u:=goInt N) ?_ hk rfl
  unfold execOp
  rw[ho]
  simp only[resolve,hc,hxs',Sem.run_bind,Sem.run_pure,Result.andThen_ok,invoke,builtin]
  simp[hr]
 unfold lenV at hk
 split at hk
 ·rename_i hkd
  rw[hkd] at hu
  cases v<;>simp only at hk
  case str b=>
   have hv:a.eval x= .string b:=hv
   exact key _ (fun w=>by simp[Builtin.len_,hts',hv,run_underlying hu]) hk
 ·rename_i e hkd
  rw[hkd] at hu
  have key2:∀ {A:Option Addr} {N cap:Nat},a.eval x= .slice A N cap→K false n (.int .i64 N) h→OpOk P o K w κ m n s h a:=fun e hk=>
   key _ (fun w=>by simp[Builtin.len_,hts',e,run_underlying hu]) hk
  cases v<;>simp only at hk
  case nils=>obtain ⟨A,hx⟩:=hv;exact key2 hx hk
  case ro k rows=>obtain ⟨A,cap,hx,_⟩:=hv;exact key2 hx hk
  case own id=>
   split at hk
   ·rename_i k rs hs hb
    obtain ⟨A,cap,hx,_⟩:=own_slice hv hb
    exact key2 hx hk
   ·exact hk.elim
  case sl id off len=>
   split at hk
   ·rename_i k rs hs hb
    obtain ⟨_,A,cap,hx,_⟩:=sl_slice hv hb
    exact key2 hx hk
   ·exact hk.elim
 ·exact hk.elim
end
end Go.Proofs.VI
end
section
set_option linter.unusedVariables false
set_option linter.unusedSimpArgs false
namespace Go.Proofs.VI
open Go
section
variable {P:Program} {w w':World} {κ κ':Gh} {m m':Nat→Addr} {n n':Nat} {s:Slots} {h h':Heap} {a:Act} {L L':AV→Value→Prop} {tt:TypeId→Option TI}
theorem opvO_sound {x:Option Operand} {K:Option AV→Prop} (R:Rel w κ m n s h a) (hk:opvO s x K):∃ v,K v∧(x=none∧v=none∨∃ y v',x=some y∧v=some v'∧relV w κ (liveV w κ m n h) none v' (a.eval y)):=by
 cases x with
 | none=>exact ⟨none,hk,.inl ⟨rfl,rfl⟩⟩
 | some y=>
  obtain ⟨v,h1,h2⟩:=opv_sound R (show opv s y (fun v=>K (some v)) from hk)
  exact ⟨some v,h1,.inr ⟨y,v,rfl,rfl,h2⟩⟩
theorem bounds_sound {lo hi:Option Operand} {lo' hi':Option AV} {len:Nat} {K:Nat→Nat→Prop}
  (h1:lo=none∧lo'=none∨∃ y v',lo=some y∧lo'=some v'∧relV w κ (liveV w κ m n h) none v' (a.eval y)) (h2:hi=none∧hi'=none∨∃ y v',hi=some y∧hi'=some v'∧relV w κ (liveV w κ m n h) none v' (a.eval y)) (hk:bounds lo' hi' len K):
  ∃ l u,K l u∧l≤u∧u≤len∧∀ (b:Bool) (cap:Nat) (w:World),len≤cap→(Instr.sliceBounds b len cap (lo.map a.eval) (hi.map a.eval) none).run P w= .ok (l,u,cap) w:=by
 rcases h1 with ⟨rfl,rfl⟩ | ⟨y,v,rfl,rfl,hv⟩
 ·rcases h2 with ⟨rfl,rfl⟩ | ⟨y',v',rfl,rfl,hv'⟩
  ·exact ⟨0,len,hk,Nat.zero_le _,Nat.le_refl _,fun b cap w hc=>by simp[Instr.sliceBounds]⟩
  ·cases v'<;>simp only[bounds] at hk
   case int q u=>
    have hv':a.eval y'= .int q u:=hv'
    obtain ⟨k1,k2,hk⟩:=hk
    exact ⟨0,u.toNat,hk,Nat.zero_le _,by omega,fun b cap w hc=>by simp[Instr.sliceBounds,hv',Instr.sliceBound,asIntOf,k1,show u≤cap by omega]⟩
 ·cases v<;>simp only[bounds] at hk
  case int q l=>
   have hv:a.eval y= .int q l:=hv
   rcases h2 with ⟨rfl,rfl⟩ | ⟨y',v',rfl,rfl,hv'⟩
   ·obtain ⟨k1,k2,hk⟩:=hk
    exact ⟨l.toNat,len,hk,by omega,Nat.le_refl _,fun b cap w hc=>by simp[Instr.sliceBounds,hv,Instr.sliceBound,asIntOf,k1,k2]⟩
   ·cases v'<;>simp only at hk
    case int q' u=>
     have hv':a.eval y'= .int q' u:=hv'
     obtain ⟨k1,k2,k3,hk⟩:=hk
     exact ⟨l.toNat,u.toNat,hk,by omega,by omega,fun b cap w hc=>by simp[Instr.sliceBounds,hv,hv',Instr.sliceBound,asIntOf,k1,show u≤cap by omega,show 0≤u by omega,show l≤u by omega,show ¬ (max u 0 < l) by omega]⟩
theorem slice_run {t e:TypeId} (hu:P.underlying t=some (.slice e)) {k:Nat} (hs:∀ w,(sizeOf e).run P w= .ok k w) {A:Option Addr} {len cap l u:Nat} {lo hi:Option Value} (hb:(Instr.sliceBounds true len cap lo hi none).run P w= .ok (l,u,cap) w):
  (Instr.sliceAt t (.slice A len cap) lo hi none).run P w= .ok (.slice (if cap=l then A else A.map (·.add (l*k))) (u - l) (cap - l)) w:=by
 simp[Instr.sliceAt,Instr.slice,run_underlying hu,hb,hs]
theorem sliceS_run {t:TypeId} (hu:P.underlying t=some .string) {b:ByteArray} {l u:Nat} {lo hi:Option Value} (hb:(Instr.sliceBounds false b.size b.size lo hi none).run P w= .ok (l,u,b.size) w):
  (Instr.sliceAt t (.string b) lo hi none).run P w= .ok (.string (b.extract l u)) w:=by
 simp[Instr.sliceAt,Instr.slice,run_underlying hu,hb]
theorem relRs_sub {K:Option Key} {k:Nat} {rows:List (List AV)} {C:Array Value} {off l u:Nat} (hK:K=none) (hr:relRs w κ K k 0 rows C off):relRs w κ K k 0 ((rows.drop l).take (u - l)) C (off+l*k):=by
 subst hK
 refine relRs_mk fun i row hi=>?_
 rw[List.getElem?_take] at hi
 split at hi
 ·rw[List.getElem?_drop] at hi
  obtain ⟨g1,g2⟩:=relRs_get hr hi
  refine ⟨g1,?_⟩
  rw[show off+l*k+i*k=off+(l+i)*k by rw[Nat.add_mul];omega]
  exact relRow_any g2
 ·cases hi
theorem ok_slice (T:TOk P tt) {o:Oper} {t:TypeId} {x:Operand} {lo hi:Option Operand} {K:Bool→Nat→AV→Heap→Prop} (R:Rel w κ m n s h a) (ho:o.op= .slice t x lo hi none) {i:TI} (ht:tt t=some i)
  (hk:opv s x fun x=>opvO s lo fun lo=>opvO s hi fun hi=>sliceV tt i x lo hi h fun v=>K false n v h):OpOk P o K w κ m n s h a:=by
 have hu:=T.kind t i ht
 obtain ⟨v,hk1,hv⟩:=opv_sound R hk
 obtain ⟨lo',hk2,hlo⟩:=opvO_sound R hk1
 obtain ⟨hi',hk3,hhi⟩:=opvO_sound R hk2
 clear hk hk1 hk2
 unfold sliceV at hk3
 have run:∀ {u z:Value},a.eval x=u→(Instr.sliceAt t u (lo.map a.eval) (hi.map a.eval) none).run P w= .ok z w→(execOp a.eval o).run P w= .ok (.value z) w:=fun {u z} e hr=>by
  unfold execOp
  rw[ho]
  simp[e,hr]
 cases hkd:i.kind with
 | str=>
  rw[hkd] at hk3 hu
  cases v<;>simp only at hk3
  case str b=>
   obtain ⟨l,u,hk,g1,g2,g3⟩:=bounds_sound (P:=P) hlo hhi hk3
   exact OpOk.value R (run hv (sliceS_run hu (g3 false b.size w (Nat.le_refl _)))) hk rfl
 | slice e=>
  rw[hkd] at hk3 hu
  simp only[ty] at hk3
  cases hte:tt e with
  | none=>rw[hte] at hk3;exact hk3.elim
  | some ti=>
   rw[hte] at hk3
   simp only at hk3
   cases v<;>simp only at hk3
   case nils=>
    obtain ⟨l,u,hk,g1,g2,g3⟩:=bounds_sound (P:=P) hlo hhi hk3
    obtain ⟨A,hx⟩:=hv
    have e1:l=0:=by omega
    have e2:u=0:=by omega
    subst e1;subst e2
    exact OpOk.value R (run hx (slice_run hu (run_siz T hte) (g3 true 0 w (Nat.le_refl _)))) hk ⟨A,by simp⟩
   case ro k rs=>
    cases hq:Nat.beq k ti.size with
    | false=>rw[hq] at hk3;exact hk3.elim
    | true=>
     rw[hq,cond_true] at hk3
     have hq:=Nat.eq_of_beq_eq_true hq
     obtain ⟨l,u,hk,g1,g2,g3⟩:=bounds_sound (P:=P) hlo hhi hk3
     obtain ⟨A,cap,hx,hcap,hr⟩:=hv
     refine OpOk.value R (run hx (slice_run hu (run_siz T hte) (g3 true cap w hcap))) hk ?_
     have hlen:((rs.drop l).take (u - l)).length=u - l:=by simp;omega
     refine ⟨_,cap - l,by rw[hlen],by rw[hlen];omega,?_⟩
     by_cases hz:u=l
     ·left;subst hz;simp
     ·right
      rcases hr with e0 | ⟨b,off,C,t0,fr,hA,hw,hκ,hr⟩
      ·subst e0;simp at g2;omega
      ·subst hA
       refine ⟨b,off+l*ti.size,C,t0,fr,?_,hw,hκ,?_⟩
       ·rw[if_neg (by omega)];simp[add_plain]
       ·rw[←hq];exact relRs_sub rfl hr
   case own id=>
    split at hk3
    ·rename_i k rs hs hb
     cases hq:Nat.beq k ti.size with
     | false=>rw[hq] at hk3;exact hk3.elim
     | true=>
      rw[hq,cond_true] at hk3
      have hq:=Nat.eq_of_beq_eq_true hq
      obtain ⟨l,u,hk,g1,g2,g3⟩:=bounds_sound (P:=P) hlo hhi hk3
      obtain ⟨A,cap,hx,hcap,hr⟩:=own_slice hv hb
      refine OpOk.value R (run hx (slice_run hu (run_siz T hte) (g3 true cap w hcap))) hk ?_
      show liveV w κ m n h (.sl id l (u - l)) _
      refine ⟨(R.blk id _ hb).1,⟨_,_,_,rfl⟩,?_⟩
      rw[hb]
      refine ⟨by omega,_,_,rfl,by omega,?_⟩
      by_cases hz:cap - l=0
      ·exact .inl hz
      ·right
       rcases hr with e0 | ⟨hA,hB⟩
       ·omega
       ·subst hA
        refine ⟨?_,by rw[show l+(cap - l)=cap by omega];exact hB⟩
        rw[if_neg (by omega)]
        have hm:m id=⟨(m id).block,(m id).off,none⟩:=by
         have:=hB.1
         cases hh:m id with | mk b o sp=>rw[hh] at this;simp at this;simp[this]
        rw[hm,←hq];simp[add_plain]
    ·exact hk3.elim
   case sl id off len=>
    split at hk3
    ·rename_i k rs hs hb
     cases hq:Nat.beq k ti.size with
     | false=>rw[hq] at hk3;exact hk3.elim
     | true=>
      rw[hq,cond_true] at hk3
      have hq:=Nat.eq_of_beq_eq_true hq
      obtain ⟨l,u,hk,g1,g2,g3⟩:=bounds_sound (P:=P) hlo hhi hk3
      obtain ⟨hle,A,cap,hx,hcap,hr⟩:=sl_slice hv hb
      refine OpOk.value R (run hx (slice_run hu (run_siz T hte) (g3 true cap w hcap))) hk ?_
      show liveV w κ m n h (.sl id (off+l) (u - l)) _
      refine ⟨(R.blk id _ hb).1,⟨_,_,_,rfl⟩,?_⟩
      rw[hb]
      refine ⟨by omega,_,_,rfl,by omega,?_⟩
      by_cases hz:cap - l=0
      ·exact .inl hz
      ·right
       rcases hr with e0 | ⟨hA,hB⟩
       ·omega
       ·subst hA
        refine ⟨?_,by rw[show off+l+(cap - l)=off+cap by omega];exact hB⟩
        rw[if_neg (by omega),←hq]
        simp[add_plain,Nat.add_mul,Nat.add_assoc]
    ·exact hk3.elim
 | _=>rw[hkd] at hk3;exact hk3.elim
theorem bval_rel {v:AV} {b:Bool} {u:Value} {L:AV→Value→Prop} {K:Option Key} (hb:bval v=some b) (hv:relV w κ L K v u):u= .bool b:=by
 cases v<;>simp only[bval] at hb<;>first | cases hb;exact hv | cases hb
theorem sameC_rel {e:EK} {t:TypeId} (ht:flatT P e t) {x y:AV} {c:Bool} {u v:Value} {L L':AV→Value→Prop} {K K':Option Key} (hc:sameC e x y=some c) (hu:relV w κ L K x u) (hv:relV w κ L' K' y v) (d:Nat) {cs cs':Array Value} {j j':Nat} (hcs:cs[j]?=some u) (hcs':cs'[j']?=some v):
  (part t cs j).run P w= .ok u w∧(part t cs' j').run P w= .ok v w∧(Op.equalIn (d+1) t u v).run P w= .ok c w:=by
 cases e with
 | int=>
  obtain ⟨q,ht⟩:=ht
  simp only[sameC] at hc
  split at hc
  ·rename_i k a k' b
   split at hc
   ·rename_i hk
    have hk:k=k':=by simpa using hk
    subst hk
    cases hc
    have hu:u= .int k a:=hu
    have hv:v= .int k b:=hv
    refine ⟨by simp[part,isAgg,run_underlying ht,hcs],by simp[part,isAgg,run_underlying ht,hcs'],?_⟩
    rw[hu,hv,run_equalIn_int w _ _ k q a b ht,beqD]
   ·cases hc
  ·cases hc
 | str=>
  simp only[sameC] at hc
  split at hc
  ·rename_i a b
   cases hc
   have ht:P.underlying t=some .string:=ht
   have hu:u= .string a:=hu
   have hv:v= .string b:=hv
   refine ⟨by simp[part,isAgg,run_underlying ht,hcs],by simp[part,isAgg,run_underlying ht,hcs'],?_⟩
   rw[hu,hv,run_equalIn_string w _ _ a b ht,beqS]
  ·cases hc
 | bool=>
  simp only[sameC] at hc
  split at hc
  ·rename_i a b e1 e2
   cases hc
   have ht:P.underlying t=some .bool:=ht
   have hu:=bval_rel e1 hu
   have hv:=bval_rel e2 hv
   refine ⟨by simp[part,isAgg,run_underlying ht,hcs],by simp[part,isAgg,run_underlying ht,hcs'],?_⟩
   rw[hu,hv,run_equalIn_bool' w _ _ a b ht]
  ·cases hc
theorem eqFields_sound (d:Nat) {L L':AV→Value→Prop} {xs ys:Array Value}:∀ (es:List EK) (fs:List Field) (c:Nat) (X Y:List AV) (us vs:List Value) (r:Bool),flatF P c es fs→relL w κ L none 0 X us→relL w κ L' none 0 Y vs→(∀ j u,us[j]?=some u→xs[c+j]?=some u)→(∀ j u,vs[j]?=some u→ys[c+j]?=some u)→
  sameCells es X Y=some r→(Op.eqFields (d+1) xs ys fs).run P w= .ok r w
 | [],fs,c,X,Y,us,vs,r,hf,hX,hY,hxs,hys,hs=>by
  simp only[flatF] at hf
  subst hf
  simp only[sameCells] at hs
  split at hs
  ·cases hs;rfl
  ·cases hs
 | e::es,[],c,X,Y,us,vs,r,hf,hX,hY,hxs,hys,hs=>hf.elim
 | e::es,f::fs,c,X,Y,us,vs,r,hf,hX,hY,hxs,hys,hs=>by
  obtain ⟨h1,h2,h3,h4⟩:=hf
  simp only[sameCells] at hs
  split at hs
  ·rename_i x X y Y
   split at hs
   ·rename_i c1 d1 e1 e2
    cases hs
    obtain ⟨u,us',rfl,hu,hus⟩:=hX
    obtain ⟨v,vs',rfl,hv,hvs⟩:=hY
    obtain ⟨p1,p2,p3⟩:=sameC_rel (P:=P) h3 e1 hu hv d (hxs 0 u rfl) (hys 0 v rfl)
    have sh:∀ {L:AV→Value→Prop} {Z:List AV} {zs:List Value},relL w κ L none 1 Z zs→relL w κ L none 0 Z zs:=fun h=>by
     obtain ⟨g1,g2⟩:=relL_get h
     exact relL_mk g1 fun j x y hx hy=>by simpa [kid] using g2 j x y hx hy
    have ih:=eqFields_sound d es fs (c+1) X Y us' vs' d1 h4 (sh hus) (sh hvs) (fun j z hz=>by
     have:=hxs (j+1) z (by simpa using hz)
     rwa [show c+(j+1)=c+1+j by omega] at this) (fun j z hz=>by
     have:=hys (j+1) z (by simpa using hz)
     rwa [show c+(j+1)=c+1+j by omega] at this) e2
    simp only[Nat.add_zero] at p1 p2
    simp only[Op.eqFields,ne_eq,h1,not_false_eq_true,if_true,Sem.run_bind,h2,p1,p2,p3,Result.andThen_ok]
    cases c1 with
    | true=>simpa using ih
    | false=>simp
   ·cases hs
  ·cases hs
theorem ok_binV (T:TOk P tt) {o:Oper} {op:BinOp} {t t':TypeId} {x y:Operand} {K:Bool→Nat→AV→Heap→Prop} (R:Rel w κ m n s h a) (ho:o.op= .binOp op t x y t') {i:TI} (ht:tt t=some i) {v v':AV}
  (hv:relV w κ (liveV w κ m n h) none v (a.eval x)) (hv':relV w κ (liveV w κ m n h) none v' (a.eval y)) (hk:binV i op v v' fun v=>K false n v h):OpOk P o K w κ m n s h a:=by
 unfold binV at hk
 split at hk
 ·rename_i k i k' j
  split at hk
  ·exact ok_shift R ho hv hv' hk.1 (.inl ⟨rfl,rfl⟩) hk.2
  ·exact ok_shift R ho hv hv' hk.1 (.inr ⟨rfl,rfl⟩) hk.2
  ·split at hk
   ·rename_i hkk
    exact ok_int R ho hv hv' (by simpa using hkk) hk
   ·exact hk.elim
 ·exact ok_str R ho hv hv' hk
 ·rename_i l l'
  cases he:i.eq with
  | nil=>rw[he] at hk;exact hk.elim
  | cons ek es=>
   rw[he] at hk
   simp only at hk
   split at hk
   ·rename_i r hr
    obtain ⟨g1,g2,fields,hu,g3⟩:=T.flat t i ht (by rw[he];simp)
    rw[he] at g3
    obtain ⟨us,e1,r1⟩:=hv
    obtain ⟨us',e2,r2⟩:=hv'
    have hfo:P.fieldsOf t=fields:=by unfold Program.fieldsOf;rw[hu]
    have heq:(Op.equalIn 10000 t (.agg us.toArray) (.agg us'.toArray)).run P w= .ok r w:=by
     rw[show (10000:Nat)=9998+1+1 from rfl,run_equalIn_agg w _ t _ _ (by rw[hfo];exact hu) g1,hfo]
     exact eqFields_sound 9998 (ek::es) fields.toList 0 l l' us us' r g3 r1 r2 (fun j u hj=>by simpa using hj) (fun j u hj=>by simpa using hj) hr
    have key:∀ (v:AV) (z:Value),(binOp op t (.agg us.toArray) (.agg us'.toArray)).run P w= .ok z w→K false n v h→relV w κ (liveV w κ m n h) none v z→OpOk P o K w κ m n s h a:=fun v z hr hk hv=>
     OpOk.value R (run_bin ho e1 e2 (run_eqGuard_agg w op t x y _ _ g2) hr) hk hv
    cases op<;>simp only at hk
    case eql=>exact key _ (.bool r) (by rw[run_eql_struct,heq];rfl) hk rfl
    case neq=>exact key _ (.bool !r) (by rw[run_neq_struct,heq];rfl) hk rfl
   ·exact hk.elim
 ·split at hk
  ·rename_i hkd
   have hu:=T.kind t i ht
   rw[hkd] at hu
   split at hk
   ·rename_i b b' e1 e2
    have hx:=bval_rel e1 hv
    have hy:=bval_rel e2 hv'
    have key:∀ v u,(binOp op t (.bool b) (.bool b')).run P w= .ok u w→K false n v h→relV w κ (liveV w κ m n h) none v u→OpOk P o K w κ m n s h a:=fun v u hr hk hv=>
     OpOk.value R (run_bin ho hx hy (guard_plain (by simp) (by simp)) hr) hk hv
    have he:(Op.equal t (.bool b) (.bool b')).run P w= .ok (b == b') w:=run_equalIn_bool w 9999 t b b' hu
    cases op<;>simp only at hk
    case eql=>exact key _ (.bool (b == b')) (by simp[binOp,he]) hk rfl
    case neq=>exact key _ (.bool (b != b')) (by simp[binOp,he,bne]) hk rfl
   ·exact hk.elim
  ·exact hk.elim
end
end Go.Proofs.VI
end
section
set_option linter.unusedVariables false
set_option linter.unusedSimpArgs false
namespace Go.Proofs.VI
open Go
section
variable {P:Program} {w w':World} {κ κ':Gh} {m m':Nat→Addr} {n n':Nat} {s:Slots} {h h':Heap} {a:Act} {L L':AV→Value→Prop} {tt:TypeId→Option TI}
theorem ok_new2 {o:Oper} {K:Bool→Nat→AV→Heap→Prop} (R:Rel w κ m n s h a) {w1:World} (hw1:w1.heap=w.heap) (hos:w1.os=w.os) (htape:w1.tape=w.tape) (hout:w1.output=w.output) {f:Bool} {v:AV} {u:Value} {b:Blk} {C:Array Value} {t:TypeId} {fr:Nat×Nat} (hr:(execOp a.eval o).run P w= .ok (.value u) (w1.alloc (.cells C t fr)))
  (hk:K f (n+1) v (upd h n (some b)))
  (hb:∀ (κ':Gh) (m':Nat→Addr) (w':World),m' n=⟨w.heap.size,0,none⟩→w'.heap[w.heap.size]?=some (.cells C t fr)→κ' w.heap.size=some (.key (n,[]))→ImmMap w w' κ κ'→
   (∀ v u,liveV w κ m n h v u→liveV w' κ' m' (n+1) (upd h n (some b)) v u)→relBlk w' κ' m' (liveV w' κ' m' (n+1) (upd h n (some b))) n b)
  (hv:∀ (κ':Gh) (m':Nat→Addr) (w':World),m' n=⟨w.heap.size,0,none⟩→w'.heap[w.heap.size]?=some (.cells C t fr)→κ' w.heap.size=some (.key (n,[]))→relV w' κ' (liveV w' κ' m' (n+1) (upd h n (some b))) none v u):OpOk P o K w κ m n s h a:=by
 have R1:=R.drew hw1
 have L1:∀ v u,liveV w κ m n h v u→liveV w1 κ m n h v u:=liveV_move (Nat.le_refl _) fun i _=> .inr ⟨rfl,rfl,fun x hx=>⟨hx,by rw[hw1]⟩⟩
 obtain ⟨κ',m',g1,g2,g3,g4,g5,g6,g7,g8⟩:=R1.alloc C t b fr (fun κ' m' w' h1 h2 h3 h4 h5=>by
  rw[hw1] at h1 h2 h3
  exact hb κ' m' w' h1 h2 h3 (fun b hb=>by have:=h4 b hb;rwa [hw1] at this) (fun v u hl=>h5 v u (L1 v u hl)))
 rw[hw1] at g3 g5 g6
 have S:Stp κ w κ w1:=⟨hos,htape,hout,by rw[hw1];exact Nat.le_refl _,fun x _ _=>by rw[hw1],fun x hx=>hx,fun x _ hx=>hx,fun x C0 t0 fr0 hx=>⟨C0,by rw[hw1];exact hx,rfl⟩⟩
 unfold OpOk Oper.wp
 rw[hr]
 exact ⟨f,n+1,v,_,κ',m',u,hk,Nat.le_succ _,rfl,hv κ' m' _ g3 g5 g6,g1,S.trans g2,fun _ j hj=>upd_ne _ _ (by omega),fun j hj _=>g4 j hj,fun v u hl=>g8 v u (L1 v u hl)⟩
theorem strRows_get {s:ByteArray} {i:Nat} {row:List AV} (hi:(strRows s)[i]?=some row):∃ b,s.data[i]?=some b∧row=[.int .u8 b.toNat]:=by
 unfold strRows at hi
 rw[List.getElem?_map] at hi
 cases hq:s.data.toList[i]? with
 | none=>rw[hq] at hi;cases hi
 | some b=>rw[hq] at hi;cases hi;exact ⟨b,by simpa using hq,rfl⟩
theorem strRows_len (s:ByteArray):(strRows s).length=s.size:=by simp[strRows]
theorem ok_strBytes {o:Oper} {ta tb e:TypeId} {x:Operand} {K:Bool→Nat→AV→Heap→Prop} (R:Rel w κ m n s h a) (ho:o.op= .convert ta tb x) (h1:P.underlying ta=some .string) (h2:P.underlying tb=some (.slice e)) (h3:P.underlying e=some (.int .u8)) {b:ByteArray} (hx:a.eval x= .string b)
  (hk:K false (n+1) (.own n) (upd h n (some (.rows 1 (strRows b) [])))):OpOk P o K w κ m n s h a:=by
 have hsz:(bytesRow b (grownCap w b.size 0 e)).size=grownCap w b.size 0 e:=by
  have:=grownCap_ge w b.size 0 e
  simp[bytesRow];omega
 have hfr:∀ (C:Array Value),freeC 1 C (C.size,C.size+1):=fun C=>⟨fun i hi=>by simp;omega,fun h=>absurd rfl h⟩
 refine ok_new2 R (w1:=w.drew) (C:=bytesRow b (grownCap w b.size 0 e)) (t:=e) (fr:=((bytesRow b (grownCap w b.size 0 e)).size,(bytesRow b (grownCap w b.size 0 e)).size+1)) rfl rfl rfl rfl (u:= .slice (some ⟨w.heap.size,0,none⟩) (strRows b).length (grownCap w b.size 0 e)) ?_ hk (fun κ' m' w' hm hw hκ hI hL=>?_) (fun κ' m' w' hm hw hκ=>own_new hm hw (hfr _) hκ ?_ ?_)
 ·unfold execOp
  rw[ho]
  simp only[hx,Sem.run_bind,run_bytes_of_string w ta tb e b h1 h2 h3,Result.andThen_ok,Sem.run_pure,strRows_len]
 ·refine .inr ⟨by rw[hm],_,e,_,by rw[hm];exact hw,hfr _,by rw[hm];exact hκ,?_⟩
  rw[hm]
  refine relHRs_mk fun i row hi=>?_
  obtain ⟨c,hc,rfl⟩:=strRows_get hi
  have hlt:i < b.data.size:=(Array.getElem?_eq_some_iff.1 hc).1
  refine ⟨rfl,⟨⟨.int .u8 c.toNat,?_,rfl⟩,trivial⟩⟩
  rw[Nat.zero_add,Nat.mul_one]
  simp[bytesRow,Array.getElem?_append,hlt]
  rw[if_pos (show i < b.size from hlt),hc]
  rfl
 ·rw[strRows_len];exact grownCap_ge w b.size 0 e
 ·rw[hsz,Nat.mul_one];exact Nat.le_refl _
theorem bytes_run {o:Oper} {ta tb e:TypeId} {x:Operand} (ho:o.op= .convert ta tb x) (h1:P.underlying ta=some (.slice e)) (h2:P.underlying tb=some .string) (h3:P.underlying e=some (.int .u8)) {rs:List (List AV)} (hrs:isBytes rs) {A:Option Addr} {cap:Nat} (hx:a.eval x= .slice A rs.length cap)
  (hA:rs=[]∨∃ b off,A=some ⟨b,off,none⟩∧∀ i row,rs[i]?=some row→∀ k n,row=[.int k n]→w.cell? ⟨b,off+i,none⟩=some (.int k n)):(execOp a.eval o).run P w= .ok (.value (.string (rowsStr rs))) w:=by
 have key:(convert ta tb (.slice A rs.length cap)).run P w= .ok (.string (rowsStr rs)) w:=by
  cases A with
  | none=>
   have:rs=[]:=by
    rcases hA with e | ⟨b,off,e,_⟩
    ·exact e
    ·cases e
   subst this
   rw[run_convert_bytes_string w ta tb e none _ cap h1 h3 h2]
   simp[Conv.bytesToString,rowsStr]
   rfl
  | some ad=>
   have hl:(rs.map u8Of).length=rs.length:=by simp
   have:=run_convert_bytes_back (P:=P) w ta tb e ad cap (rs.map u8Of) h1 h3 h2 (fun j hj=>by
    have hj':j < rs.length:=by simpa using hj
    rcases hA with e | ⟨b,off,e,hc⟩
    ·subst e;simp at hj'
    ·cases e
     obtain ⟨nn,hrow,g0,g1⟩:=hrs _ (List.getElem_mem hj')
     have:=hc j _ (List.getElem?_eq_getElem hj') .u8 nn hrow
     rw[add_plain,this]
     have e2:((rs.map u8Of)[j]).toNat=nn.toNat:=by
      simp only[List.getElem_map,hrow,u8Of]
      rw[show nn.toNat.toUInt8.toNat=nn.toNat % 256 from by simp]
      omega
     rw[e2]
     congr 2;omega)
   rw[hl] at this
   exact this
 unfold execOp
 rw[ho]
 simp only[hx,Sem.run_bind,key,Result.andThen_ok,Sem.run_pure]
theorem row_bytes {C:Array Value} {off:Nat} {b:Nat} {t:TypeId} {fr:Nat×Nat} {rs:List (List AV)} (hw:w.heap[b]?=some (.cells C t fr)) (hr:∀ i row,rs[i]?=some row→∀ v,row[0]?=some v→(∀ k n,v= .int k n→C[off+i]?=some (.int k n))):
  ∀ i row,rs[i]?=some row→∀ k n,row=[.int k n]→w.cell? ⟨b,off+i,none⟩=some (.int k n):=fun i row hi k n e=>by
 subst e
 rw[cell_of_heap hw]
 exact hr i _ hi _ rfl k n rfl
theorem own_addr {id N:Nat} {k:Nat} (hB:HasBlk w κ (m id) id k N):m id=⟨(m id).block,(m id).off,none⟩:=by
 have:=hB.1
 cases hh:m id with | mk b o sp=>rw[hh] at this;simp at this;simp[this]
theorem ok_convert (T:TOk P tt) {o:Oper} {ta tb:TypeId} {x:Operand} {K:Bool→Nat→AV→Heap→Prop} (R:Rel w κ m n s h a) (ho:o.op= .convert ta tb x)
  (hk:ty tt ta fun ta=>ty tt tb fun tb=>opv s x fun v=>match ta.kind with
  | .int _=>(match tb.kind with | .int k=>(match v with | .int _ m=>K false n (.int k (k.wrap m)) h | _=>False) | _=>False)
  | .str=>(match tb.kind with
   | .str=>(match v with | .str s=>K false n (.str s) h | _=>False)
   | .slice e=>ty tt e fun te=>(match te.kind with
    | .int .u8=>(match v with | .str s=>K false (n+1) (.own n) (upd h n (some (.rows 1 (strRows s) []))) | _=>False)
    | _=>False)
   | _=>False)
  | .slice e=>ty tt e fun te=>(match te.kind with
   | .int .u8=>(match tb.kind with
    | .str=>(match v with
     | .ro k rs=>k=1∧isBytes rs∧K false n (.str (rowsStr rs)) h
     | .own id=>(match h id with | some (.rows k rs [])=>k=1∧isBytes rs∧K false n (.str (rowsStr rs)) h | _=>False)
     | .sl id off len=>(match h id with | some (.rows k rs [])=>k=1∧isBytes ((rs.drop off).take len)∧K false n (.str (rowsStr ((rs.drop off).take len))) h | _=>False)
     | _=>False)
    | _=>False)
   | _=>False)
  | _=>False):OpOk P o K w κ m n s h a:=by
 simp only[ty] at hk
 cases hta:tt ta with
 | none=>rw[hta] at hk;exact hk.elim
 | some A=>
  rw[hta] at hk
  simp only at hk
  cases htb:tt tb with
  | none=>rw[htb] at hk;exact hk.elim
  | some B=>
   rw[htb] at hk
   simp only at hk
   have ua:=T.kind ta A hta
   have ub:=T.kind tb B htb
   obtain ⟨v,hk1,hv⟩:=opv_sound R hk
   clear hk
   have conv:∀ {u z:Value},a.eval x=u→(convert ta tb u).run P w= .ok z w→(execOp a.eval o).run P w= .ok (.value z) w:=fun {u z} e hr=>by
    unfold execOp
    rw[ho]
    simp only[e,Sem.run_bind,hr,Result.andThen_ok,Sem.run_pure]
   split at hk1
   ·rename_i k0 ka
    rw[ka] at ua
    split at hk1
    ·rename_i k kb
     rw[kb] at ub
     cases v<;>simp only at hk1
     case int q i=>
      have hv:a.eval x= .int q i:=hv
      refine OpOk.value R (u:= .int k (k.wrap i)) (conv hv ?_) hk1 rfl
      simp[convert,run_underlying ua,run_underlying ub,Conv.intToInt]
    ·exact hk1.elim
   ·rename_i ka
    rw[ka] at ua
    split at hk1
    ·rename_i kb
     rw[kb] at ub
     cases v<;>simp only at hk1
     case str b=>
      have hv:a.eval x= .string b:=hv
      refine OpOk.value R (u:= .string b) (conv hv ?_) hk1 rfl
      simp[convert,run_underlying ua,run_underlying ub]
    ·rename_i e kb
     rw[kb] at ub
     cases hte:tt e with
     | none=>rw[hte] at hk1;exact hk1.elim
     | some te=>
      rw[hte] at hk1
      simp only at hk1
      have ue:=T.kind e te hte
      split at hk1
      ·rename_i ke
       rw[ke] at ue
       cases v<;>simp only at hk1
       case str b=>exact ok_strBytes R ho ua ub ue hv hk1
      ·exact hk1.elim
    ·exact hk1.elim
   ·rename_i e ka
    rw[ka] at ua
    cases hte:tt e with
    | none=>rw[hte] at hk1;exact hk1.elim
    | some te=>
     rw[hte] at hk1
     simp only at hk1
     have ue:=T.kind e te hte
     split at hk1
     ·rename_i ke
      rw[ke] at ue
      split at hk1
      ·rename_i kb
       rw[kb] at ub
       cases v<;>simp only at hk1
       case ro k rs=>
        obtain ⟨rfl,hrs,hk1⟩:=hk1
        obtain ⟨A0,cap,hx,hcap,hr⟩:=hv
        refine OpOk.value R (bytes_run ho ua ub ue hrs hx ?_) hk1 rfl
        rcases hr with e0 | ⟨b,off,C,t0,fr,hA,hw,hκ,hr⟩
        ·exact .inl e0
        ·refine .inr ⟨b,off,hA,row_bytes hw fun i row hi v hv k n e=>?_⟩
         subst e
         obtain ⟨g1,g2⟩:=relRs_get hr hi
         obtain ⟨u,hu,hr2⟩:=relRow_get g2 hv
         rw[hr2] at hu
         simpa using hu
       case own id=>
        split at hk1
        ·rename_i k rs hb
         obtain ⟨rfl,hrs,hk1⟩:=hk1
         obtain ⟨A0,cap,hx,hcap,hr⟩:=own_slice hv hb
         refine OpOk.value R (bytes_run ho ua ub ue hrs hx ?_) hk1 rfl
         rcases (R.blk id _ hb).2 with e0 | ⟨hsp,C,t0,fr,hw,hfr,hκ,hrr⟩
         ·exact .inl e0
         ·by_cases hz:rs=[]
          ·exact .inl hz
          ·have hp:0 < rs.length:=List.length_pos_iff.2 hz
           rcases hr with e0 | ⟨hA,hB⟩
           ·omega
           ·refine .inr ⟨(m id).block,(m id).off,by rw[hA,←own_addr hB],row_bytes hw fun i row hi v hv k n e=>?_⟩
            subst e
            obtain ⟨g1,g2⟩:=relHRs_get hrr hi
            obtain ⟨u,hu,hr2⟩:=relHRow_get g2 hv
            have hr2:u= .int k n:=hr2
            rw[hr2] at hu
            simpa using hu
        ·exact hk1.elim
       case sl id off len=>
        split at hk1
        ·rename_i k rs hb
         obtain ⟨rfl,hrs,hk1⟩:=hk1
         obtain ⟨hle,A0,cap,hx,hcap,hr⟩:=sl_slice hv hb
         have hlen:((rs.drop off).take len).length=len:=by simp;omega
         refine OpOk.value R (bytes_run ho ua ub ue (rs:=(rs.drop off).take len) (cap:=cap) hrs (by rw[hlen];exact hx) ?_) hk1 rfl
         rcases (R.blk id _ hb).2 with e0 | ⟨hsp,C,t0,fr,hw,hfr,hκ,hrr⟩
         ·subst e0;exact .inl (by simp)
         ·by_cases hz:len=0
          ·subst hz;exact .inl (by simp)
          ·rcases hr with e0 | ⟨hA,hB⟩
           ·omega
           ·refine .inr ⟨(m id).block,(m id).off+off*1,hA,row_bytes hw fun i row hi v hv k n e=>?_⟩
            subst e
            rw[List.getElem?_take] at hi
            split at hi
            ·rw[List.getElem?_drop] at hi
             obtain ⟨g1,g2⟩:=relHRs_get hrr hi
             obtain ⟨u,hu,hr2⟩:=relHRow_get g2 hv
             have hr2:u= .int k n:=hr2
             rw[hr2] at hu
             rw[show (m id).off+off*1+i=(m id).off+(off+i)*1+0 by omega]
             exact hu
            ·cases hi
        ·exact hk1.elim
      ·exact hk1.elim
     ·exact hk1.elim
   ·exact hk1.elim
theorem minMax_sound {mx:Bool}:∀ {vs:List AV} {v:AV} {us:List Value} {u:Value} {K:AV→Prop} {c:Nat},relV w κ (liveV w κ m n h) none v u→relL w κ (liveV w κ m n h) none c vs us→minMax mx v vs K→∃ v',K v'∧(∃ u',relV w κ (liveV w κ m n h) none v' u'∧∀ w,(us.foldlM (fun x y=>bif mx then Builtin.max2 x y else Builtin.min2 x y) u).run P w= .ok u' w)
 | [],v,us,u,K,c,hv,hr,hk=>by
  have hr:us=[]:=hr
  subst hr
  exact ⟨v,hk,u,hv,fun w=>by simp⟩
 | x::vs,v,us,u,K,c,hv,hr,hk=>by
  obtain ⟨y,us',rfl,hy,hr'⟩:=hr
  cases x<;>simp only[minMax] at hk
  case int k b=>
   cases v<;>simp only at hk
   case int k' i=>
    have hv:u= .int k' i:=hv
    have hy:y= .int k b:=hy
    obtain ⟨v',g1,u',g2,g3⟩:=minMax_sound (us:=us') (u:= .int k' (bif mx then (if b>i then b else i) else (if b < i then b else i))) (v:= .int k' (bif mx then (if b>i then b else i) else (if b < i then b else i))) (show _=_ from rfl) hr' hk
    refine ⟨v',g1,u',g2,fun w=>?_⟩
    rw[hv,hy,List.foldlM_cons]
    cases mx with
    | true=>simpa [Builtin.max2] using g3 w
    | false=>simpa [Builtin.min2] using g3 w
theorem ok_minMax {o:Oper} {c:Call} {b:Builtin} {mx:Bool} (hb:b=bif mx then .max else .min) {xs:List Operand} {K:Bool→Nat→AV→Heap→Prop} (R:Rel w κ m n s h a) (ho:o.op= .call c) (hc:c.callee= .builtin b) (hxs:c.args.toList=xs) {v:AV} {vs:List AV} (hv:relL w κ (liveV w κ m n h) none 0 (v::vs) (xs.map a.eval))
  (hk:minMax mx v vs fun v=>K false n v h):OpOk P o K w κ m n s h a:=by
 obtain ⟨u,us,e,h1,h2⟩:=hv
 obtain ⟨v',hk,u',h3,h4⟩:=minMax_sound (P:=P) h1 h2 hk
 refine OpOk.value R (u:=u') ?_ hk h3
 have hargs:(c.args.map a.eval).toList=u::us:=by rw[Array.toList_map,hxs,e]
 unfold execOp
 rw[ho]
 simp only[resolve,hc,Sem.run_bind,Sem.run_pure,Result.andThen_ok,invoke]
 have:=h4 w
 cases mx with
 | true=>
  simp only[cond_true] at hb this
  subst hb
  simp only[builtin,Builtin.max_,hargs,Sem.run_bind,this,Result.andThen_ok,Sem.run_pure]
 | false=>
  simp only[cond_false] at hb this
  subst hb
  simp only[builtin,Builtin.min_,hargs,Sem.run_bind,this,Result.andThen_ok,Sem.run_pure]
end
end Go.Proofs.VI
end
section
set_option linter.unusedVariables false
set_option linter.unusedSimpArgs false
namespace Go.Proofs.VI
open Go
section
variable {P:Program} {w w':World} {κ κ':Gh} {m m':Nat→Addr} {n n':Nat} {s:Slots} {h h':Heap} {a:Act} {L L':AV→Value→Prop} {tt:TypeId→Option TI}
def mapKey (κ:Gh) (f:Key→Key):Gh:=fun b=>match κ b with | some (.key K)=>some (.key (f K)) | x=>x
theorem mapKey_imm {f:Key→Key} {b:Nat} (hb:κ b=some .imm):mapKey κ f b=some .imm:=by simp[mapKey,hb]
theorem mapKey_none {f:Key→Key} {b:Nat} (hb:κ b=none):mapKey κ f b=none:=by simp[mapKey,hb]
theorem mapKey_key {f:Key→Key} {b:Nat} {K:Key} (hb:κ b=some (.key K)):mapKey κ f b=some (.key (f K)):=by simp[mapKey,hb]
theorem mapKey_some {f:Key→Key} {b:Nat} {g:G} (hb:mapKey κ f b=some g):∃ g',κ b=some g':=by
 unfold mapKey at hb
 split at hb
 ·exact ⟨_,by assumption⟩
 ·exact ⟨_,hb⟩
theorem mapKey_inv {f:Key→Key} {b:Nat} {K:Key} (hb:mapKey κ f b=some (.key K)):∃ K',κ b=some (.key K')∧f K'=K:=by
 unfold mapKey at hb
 split at hb
 ·rename_i K' hK
  cases hb
  exact ⟨K',hK,rfl⟩
 ·rename_i hK
  exact absurd hb (hK K)
theorem Rel.next (R:Rel w κ m n s h a) {B:Blk} (hI:ImmMap w w' κ κ') (hm:∀ j,j < n→m' j=m j)
  (hh:∀ i,i < n→h' i=none∨(h' i=h i∧∀ q x,κ x=some (.key (i,q))→κ' x=some (.key (i,q))∧w'.heap[x]?=w.heap[x]?))
  (hn:h' n=some B) (hgt:∀ i,n < i→h' i=none) (hB:∀ L',(∀ v u,liveV w κ m n h v u→L' v u)→relBlk w' κ' m' L' n B)
  (hlow:∀ b g,κ' b=some g→b < w'.heap.size) (hf:∀ b id p,κ' b=some (.key (id,p))→id < n+1):
  Rel w' κ' m' (n+1) s h' a∧∀ v u,liveV w κ m n h v u→liveV w' κ' m' (n+1) h' v u:=by
 have hL:∀ v u,liveV w κ m n h v u→liveV w' κ' m' (n+1) h' v u:=liveV_move (Nat.le_succ _) fun i hi=>(hh i hi).imp id fun ⟨e1,e2⟩=>⟨by rw[e1],hm i hi,fun x hx=>e2 [] x hx⟩
 refine ⟨R.move hI hL (fun i b hi=>?_) hlow hf,hL⟩
 by_cases e:i=n
 ·subst e
  rw[hn] at hi;injection hi with hi;subst hi
  exact ⟨Nat.lt_succ_self _,hB _ hL⟩
 ·by_cases e2:n < i
  ·rw[hgt i e2] at hi;cases hi
  ·rcases hh i (by omega) with e3 | ⟨e3,e4⟩
   ·rw[e3] at hi;cases hi
   ·rw[e3] at hi
    exact ⟨by omega,relBlk_move hI hL ⟨_,rfl,fun q x hx=>e4 _ x hx⟩ (hm i (by omega)) (R.blk i b hi).2⟩
theorem Rel.gt (R:Rel w κ m n s h a) {i:Nat} (hi:n≤i):h i=none:=by
 cases e:h i with
 | none=>rfl
 | some b=>have:=(R.blk i b e).1;omega
def Lay (w:World) (κ:Gh) (L:AV→Value→Prop) (n:Nat) (hs:List Hole) (r0 k:Nat) (rows:List (List AV)) (us:List Value):Prop:=
 us.length=rows.length*k∧∀ i row,rows[i]?=some row→row.length=k∧∀ j v,row[j]?=some v→∃ u,us[i*k+j]?=some u∧relCell w κ L n hs (r0+i) j v u
theorem relHRs_lay {k:Nat} {rows rows2:List (List AV)} {hs:List Hole} {us us2:List Value} {C:Array Value} {off:Nat} (h1:Lay w κ L n hs 0 k rows us) (h2:Lay w κ L n hs rows.length k rows2 us2)
  (hC:∀ p u,(us++us2)[p]?=some u→C[off+p]?=some u):relHRs w κ L n hs k 0 (rows++rows2) C off:=by
 refine relHRs_mk fun i row hi=>?_
 by_cases e:i < rows.length
 ·rw[List.getElem?_append_left e] at hi
  obtain ⟨g1,g2⟩:=h1.2 i row hi
  refine ⟨g1,relHRow_mk fun j v hv=>?_⟩
  obtain ⟨u,hu,hr⟩:=g2 j v hv
  have hlt:i*k+j < us.length:=(List.getElem?_eq_some_iff.1 hu).1
  rw[Nat.zero_add] at hr⊢
  exact ⟨u,by rw[show off+i*k+j=off+(i*k+j) by omega];exact hC _ _ (by rw[List.getElem?_append_left hlt];exact hu),by rw[Nat.zero_add];exact hr⟩
 ·rw[List.getElem?_append_right (by omega)] at hi
  obtain ⟨g1,g2⟩:=h2.2 (i - rows.length) row hi
  refine ⟨g1,relHRow_mk fun j v hv=>?_⟩
  obtain ⟨u,hu,hr⟩:=g2 j v hv
  rw[show rows.length+(i - rows.length)=i by omega] at hr
  rw[Nat.zero_add]
  refine ⟨u,?_,by rw[Nat.zero_add];exact hr⟩
  have e2:(i - rows.length)*k+rows.length*k=i*k:=by rw[←Nat.add_mul];congr 1;omega
  have e3:off+i*k+j=off+(us.length+((i - rows.length)*k+j)):=by rw[h1.1];omega
  rw[e3]
  refine hC _ _ ?_
  rw[List.getElem?_append_right (by omega),show us.length+((i - rows.length)*k+j) - us.length=(i - rows.length)*k+j by omega]
  exact hu
theorem Lay.holes {hs hs':List Hole} {r0 k:Nat} {rows:List (List AV)} {us:List Value} (h1:Lay w κ L n hs r0 k rows us) (hh:∀ i c,i < rows.length→findHole hs' (r0+i) c=findHole hs (r0+i) c):Lay w κ L n hs' r0 k rows us:=
 ⟨h1.1,fun i row hi=>⟨(h1.2 i row hi).1,fun j v hv=>by
  obtain ⟨u,hu,hr⟩:=(h1.2 i row hi).2 j v hv
  refine ⟨u,hu,?_⟩
  unfold relCell at hr⊢
  rw[hh i j (List.getElem?_eq_some_iff.1 hi).1]
  exact hr⟩⟩
theorem catH_eq (x y:List Hole):catH x y=x++y:=by
 induction x with
 | nil=>rfl
 | cons a x ih=>simp[catH,ih]
theorem shift_find:∀ (hs:List Hole) (b r c:Nat),findHole (shift b hs) (b+r) c=findHole hs r c
 | [],_,_,_=>rfl
 | x::hs,b,r,c=>by
  simp only[shift,findHole_cons,shift_find hs b r c]
  by_cases e:x.row=r∧x.cell=c
  ·rw[if_pos e,if_pos ⟨by omega,e.2⟩]
  ·rw[if_neg e,if_neg fun e2=>e ⟨by omega,e2.2⟩]
theorem shift_low:∀ (hs:List Hole) (b r c:Nat),r < b→findHole (shift b hs) r c=none
 | [],_,_,_,_=>rfl
 | x::hs,b,r,c,h=>by
  simp only[shift,findHole_cons]
  rw[if_neg fun e=>by omega]
  exact shift_low hs b r c h
theorem holesLt_find:∀ {hs:List Hole} {len r c:Nat},holesLt len hs→len≤r→findHole hs r c=none
 | [],_,_,_,_,_=>rfl
 | x::hs,len,r,c,h,hr=>by
  rw[findHole_cons,if_neg fun e=>by have:=h.1;omega]
  exact holesLt_find h.2 hr
theorem run_askRoom (b:Nat) (w:World):(askRoom b).run P w= .ok () w:=by
 unfold askRoom
 split<;>rfl
structure AppT (P:Program) (ts:Array TypeId) (e:TypeId) (k bytes:Nat) (z:Value):Prop where
 t:∃ t,ts[0]?=some t∧P.underlying t=some (.slice e)
 t2:∃ t,ts[1]?=some t∧(P.underlying t=some .string∨∃ e,P.underlying t=some (.slice e))
 info:∃ f,P.info? e=some f∧f.size=k∧f.bytes=bytes∧f.zero=some z
 pos:bytes≠0
theorem run_app_in {ts:Array TypeId} {e:TypeId} {k bytes:Nat} {z:Value} (T:AppT P ts e k bytes z) {ty:TypeId} {A:Option Addr} {sLen cap cnt:Nat} {x:Value} {news:List Value} (hl:∀ w,(Builtin.lenOf x).run P w= .ok cnt w) (hf:∀ w',w'.heap=w.heap→(Builtin.firstCells k cnt x).run P w'= .ok news.toArray w') (hin:sLen+cnt≤cap) {w':World}
  (hs:match A with | some a=>(storeCells (a.add (sLen*k)) news).run P w= .ok () w' | none=>w'=w):(Builtin.append_ ts ty #[.slice A sLen cap,x]).run P w= .ok (.slice A (sLen+cnt) cap) w':=by
 obtain ⟨t,h1,h2⟩:=T.t
 obtain ⟨t2,h3,h4⟩:=T.t2
 obtain ⟨f,h6,h7,h8,h9⟩:=T.info
 cases A with
 | none=>
  have hs:w'=w:=hs
  rw[hs]
  rcases h4 with h4 | ⟨e2,h4⟩<;>simp[Builtin.append_,h1,h3,run_underlying h2,run_underlying h4,sizeOf,typeInfo,h6,h7,hl,hf _ rfl,hin]
 | some ad=>
  have hs:(storeCells (ad.add (sLen*k)) news).run P w= .ok () w':=hs
  rcases h4 with h4 | ⟨e2,h4⟩<;>simp[Builtin.append_,h1,h3,run_underlying h2,run_underlying h4,sizeOf,typeInfo,h6,h7,hl,hf _ rfl,hin,hs]
theorem run_app_new {ts:Array TypeId} {e:TypeId} {k bytes:Nat} {z:Value} (T:AppT P ts e k bytes z) {ty:TypeId} {A:Option Addr} {sLen cap cnt:Nat} {x:Value} {news olds:List Value} (hl:∀ w,(Builtin.lenOf x).run P w= .ok cnt w) (hf:∀ w',w'.heap=w.heap→(Builtin.firstCells k cnt x).run P w'= .ok news.toArray w')
  (ho:∀ w',w'.heap=w.heap→(Builtin.firstCells k sLen (.slice A sLen cap)).run P w'= .ok olds.toArray w') (hin:cap < sLen+cnt) (hb:(sLen+cnt)*bytes≤140737488355328):
  (Builtin.append_ ts ty #[.slice A sLen cap,x]).run P w= .ok (.slice (some ⟨w.heap.size,0,none⟩) (sLen+cnt) (grownCap w (sLen+cnt) cap e)) (w.drew.alloc (.cells (olds.toArray++(news.toArray++Builtin.zeroCells z.cells (grownCap w (sLen+cnt) cap e - (sLen+cnt)))) e)):=by
 obtain ⟨t,h1,h2⟩:=T.t
 obtain ⟨t2,h3,h4⟩:=T.t2
 obtain ⟨f,h6,h7,h8,h9⟩:=T.info
 have hn:¬ (sLen+cnt≤cap):=by omega
 have h48':¬ (281474976710656 < Builtin.nextslicecap (sLen+cnt) cap*bytes):=by have:=growslice_fits hin hb;omega
 have e1:=hf w.drew rfl
 have e2:=ho w.drew rfl
 have hp:=T.pos
 rcases h4 with h4 | ⟨e3,h4⟩<;>simp[Builtin.append_,h1,h3,run_underlying h2,run_underlying h4,sizeOf,typeInfo,zeroValue,h6,h7,h8,h9,hl,hn,h48',e1,e2,hp,Question.forced,run_askRoom,newRow,grownCap]
theorem plainRows_get:∀ {rows:List (List AV)},plainRows rows→∀ {i:Nat} {row:List AV},rows[i]?=some row→∀ {j:Nat} {v:AV},row[j]?=some v→plainC v:=by
 have one:∀ {row:List AV},plainRow row→∀ {j:Nat} {v:AV},row[j]?=some v→plainC v:=by
  intro row
  induction row with
  | nil=>intro _ j v h;simp at h
  | cons x row ih=>
   intro hp j v hv
   cases j with
   | zero=>simp at hv;subst hv;exact hp.1
   | succ j=>exact ih hp.2 (by simpa using hv)
 intro rows
 induction rows with
 | nil=>intro _ i row h;simp at h
 | cons x rows ih=>
  intro hp i row hi j v hv
  cases i with
  | zero=>simp at hi;subst hi;exact one hp.1 hv
  | succ i=>exact ih hp.2 (by simpa using hi) hv
theorem plain_one {K:Option Key} {v:AV} {u:Value} (hv:relV w κ noL K v u) (hp:plainC v):u.oneCell'=true:=by
 cases v with
 | und=>exact hp.elim
 | agg l=>exact hp.elim
 | tup l=>exact hp.elim
 | own i=>exact hv.elim
 | sl i o l=>exact hv.elim
 | ptr i r c=>exact hv.elim
 | int k i=>rw[show u=_ from hv];rfl
 | bool b=>rw[show u=_ from hv];rfl
 | tt=>rw[show u=_ from hv];rfl
 | ff=>rw[show u=_ from hv];rfl
 | str b=>rw[show u=_ from hv];rfl
 | nilp=>rw[show u=_ from hv];rfl
 | nili=>rw[show u=_ from hv];rfl
 | nils=>obtain ⟨A,e⟩:=hv;rw[e];rfl
 | ifc=>exact hv
 | ro k rows=>obtain ⟨A,cap,e,_⟩:=hv;rw[e];rfl
 | ow k rows=>obtain ⟨A,cap,e,_⟩:=hv;rw[e];rfl
 | rp row c=>obtain ⟨b,off,C,t,fr,e,_⟩:=hv;rw[e];rfl
 | pb row=>obtain ⟨b,off,C,t,fr,e,_⟩:=hv;rw[e];rfl
 | fn f cs=>obtain ⟨vs,e,_⟩:=hv;rw[e];rfl
theorem plain_oneC {id r c:Nat} {hs:List Hole} {v:AV} {u:Value} (hv:relCell w κ (liveV w κ m n h) id hs r c v u) (hp:plainC v):u.oneCell'=true:=by
 unfold relCell at hv
 split at hv
 ·obtain ⟨_,⟨A,l,c,e⟩,_⟩:=hv;rw[e];rfl
 ·exact plain_one hv hp
structure AppX (w:World) (κ:Gh) (L:AV→Value→Prop) (n k:Nat) (id lo:Nat) (base:List (List AV)) (hs:List Hole) (A:Option Addr) (cap:Nat) (olds:List Value):Prop where
 cap_:base.length≤cap
 olen:olds.length=base.length*k
 mem:cap=0∨∃ b off C t fr,A=some ⟨b,off,none⟩∧w.heap[b]?=some (.cells C t fr)∧freeC k C fr∧κ b=some (.key (id,[]))∧off+cap*k≤C.size
 cells:∀ j u,olds[j]?=some u→∃ b off,A=some ⟨b,off,none⟩∧w.cell? ⟨b,off+j,none⟩=some u
 lay:∀ w' κ' L',ImmMap w w' κ κ'→(∀ v u,L v u→L' v u)→(∀ r c,KeyMap w w' κ κ' (some (id,[(lo+r,c)])) (some (n,[(r,c)])))→Lay w' κ' L' n hs 0 k base olds
structure AppY (P:Program) (w:World) (κ:Gh) (L:AV→Value→Prop) (n k:Nat) (id2 lo2 add:Nat) (rows:List (List AV)) (hs:List Hole) (y:Value) (news:List Value):Prop where
 len:∀ w,(Builtin.lenOf y).run P w= .ok rows.length w
 first:∀ w',w'.heap=w.heap→(Builtin.firstCells k rows.length y).run P w'= .ok news.toArray w'
 one:∀ v∈news,v.oneCell'=true
 nlen:news.length=rows.length*k
 lay:∀ w' κ' L',ImmMap w w' κ κ'→(∀ v u,L v u→L' v u)→(∀ r c,KeyMap w w' κ κ' (some (id2,[(lo2+r,c)])) (some (n,[(add+r,c)])))→Lay w' κ' L' n hs add k rows news
def appKey (n id lo id2 add:Nat) (K:Key):Key:=
 if K.1=id then (match K.2 with | []=>(n,[]) | (r,c)::q=>if lo≤r then (n,(r - lo,c)::q) else K)
 else if K.1=id2 then (match K.2 with | []=>K | (r,c)::q=>(n,(add+r,c)::q))
 else K
theorem appKey_lt {n id lo id2 add:Nat} {K:Key} (hK:K.1 < n):(appKey n id lo id2 add K).1 < n+1:=by
 unfold appKey
 split
 ·split
  ·exact Nat.lt_succ_self _
  ·split
   ·exact Nat.lt_succ_self _
   ·omega
 ·split
  ·split
   ·omega
   ·exact Nat.lt_succ_self _
  ·omega
theorem appKey_out {n id lo id2 add:Nat} {K:Key} (h1:K.1≠id) (h2:K.1≠id2):appKey n id lo id2 add K=K:=by
 unfold appKey;rw[if_neg h1,if_neg h2]
theorem appKey_x {n id lo id2 add r c:Nat} {q:List (Nat×Nat)}:appKey n id lo id2 add (id,(lo+r,c)::q)=(n,(r,c)::q):=by
 simp[appKey]
theorem appKey_y {n id lo id2 add r c:Nat} {q:List (Nat×Nat)} (hn:id2≠id):appKey n id lo id2 add (id2,(r,c)::q)=(n,(add+r,c)::q):=by
 simp[appKey,hn]
theorem zero_size (z:Array Value) (n:Nat):(Builtin.zeroCells z n).size=n*z.size:=by simp[Builtin.zeroCells]
theorem ok_app (R:Rel w κ m n s h a) {o:Oper} {c:Call} (ho:o.op= .call c) (hc:c.callee= .builtin .append) {x y:Operand} (hxs:c.args.toList=[x,y]) {e:TypeId} {k bytes:Nat} {z:Value} (T:AppT P c.argTypes e k bytes z) (hz:z.cells.size=k)
  {id lo id2:Nat} {base rows:List (List AV)} {hs hs2:List Hole} {A:Option Addr} {cap:Nat} {olds news:List Value} (hx:a.eval x= .slice A base.length cap) (hne:id≠id2)
  (X:AppX w κ (liveV w κ m n h) n k id lo base hs A cap olds) (Y:AppY P w κ (liveV w κ m n h) n k id2 0 base.length rows hs2 (a.eval y) news) (hb:(base.length+rows.length)*bytes≤140737488355328)
  (hhs:holesLt base.length hs) (hhs2:∀ i c,i < base.length→findHole hs2 i c=none) {h':Heap} (hn:h' n=some (.rows k (base++rows) (hs2++hs)))
  (hh:∀ i,i < n→h' i=none∨(h' i=h i∧i≠id∧i≠id2)) (hgt:∀ i,n < i→h' i=none) {K:Bool→Nat→AV→Heap→Prop} (hk:K true (n+1) (.own n) h'):OpOk P o K w κ m n s h a:=by
 have hrun:∀ u w',(Builtin.append_ c.argTypes o.type #[a.eval x,a.eval y]).run P w= .ok u w'→(execOp a.eval o).run P w= .ok (.value u) w':=fun u w' hr=>by
  have hargs:c.args.map a.eval= #[a.eval x,a.eval y]:=by apply Array.ext';rw[Array.toList_map,hxs];rfl
  unfold execOp
  rw[ho]
  simp only[resolve,hc,Sem.run_bind,Sem.run_pure,Result.andThen_ok,invoke,builtin,hargs,hr]
 let f:=appKey n id lo id2 base.length
 have block:∀ {w' κ' L' C off},ImmMap w w' κ κ'→(∀ v u,liveV w κ m n h v u→L' v u)→(∀ x K,κ x=some (.key K)→K≠(id,[])→κ' x=some (.key (f K))∧w'.heap[x]?=w.heap[x]?)→(∀ p u,(olds++news)[p]?=some u→C[off+p]?=some u)→relHRs w' κ' L' n (hs2++hs) k 0 (base++rows) C off:=by
  intro w' κ' L' C off hI hL hK hC
  have l1:=X.lay w' κ' L' hI hL (fun r c=>⟨_,rfl,fun q x hx=>by
   have:=hK x _ hx (by simp)
   simpa [f,appKey_x] using this⟩)
  have l2:=Y.lay w' κ' L' hI hL (fun r c=>⟨_,rfl,fun q x hx=>by
   have:=hK x _ hx (by simp)
   simp only[Nat.zero_add,List.cons_append,List.nil_append] at this⊢
   rw[show f (id2,(r,c)::q)=_ from appKey_y (Ne.symm hne)] at this
   exact this⟩)
  refine relHRs_lay (l1.holes fun i c hi=>?_) (l2.holes fun i c hi=>?_) hC
  ·rw[findHole_append,Nat.zero_add,hhs2 i c hi,Option.none_or]
  ·rw[findHole_append,holesLt_find (hs:=hs) hhs (by omega),Option.or_none]
 have olen:=X.olen
 have nlen:=Y.nlen
 have keyinv:∀ {b K},mapKey κ f b=some (.key K)→K.1 < n+1:=fun hb=>by
  obtain ⟨K',h1,h2⟩:=mapKey_inv hb
  rw[←h2]
  exact appKey_lt (R.fresh _ K'.1 K'.2 h1)
 have fin:∀ (w':World) (κ':Gh) (ad:Addr) (cap':Nat) (A':Option Addr),(execOp a.eval o).run P w= .ok (.value (.slice A' (base.length+rows.length) cap')) w'→ImmMap w w' κ κ'→(∀ x K,κ x=some (.key K)→K≠(id,[])→κ' x=some (.key (f K))∧w'.heap[x]?=w.heap[x]?)→
   (base++rows=[]∨(ad.spot=none∧∃ C t fr,w'.heap[ad.block]?=some (.cells C t fr)∧freeC k C fr∧κ' ad.block=some (.key (n,[]))∧∀ p u,(olds++news)[p]?=some u→C[ad.off+p]?=some u))→
   (cap'=0∨(A'=some ad∧HasBlk w' κ' ad n k (cap'*k)))→base.length+rows.length≤cap'→Stp κ w κ' w'→(∀ b g,κ' b=some g→b < w'.heap.size)→(∀ b id p,κ' b=some (.key (id,p))→id < n+1)→OpOk P o K w κ m n s h a:=by
  intro w' κ' ad cap' A' hr hI hK hB hA hcap S hlow hfr
  have hmn:(fun i=>if i=n then ad else m i) n=ad:=if_pos rfl
  obtain ⟨R',L'⟩:=R.next (m':=fun i=>if i=n then ad else m i) hI (fun j hj=>if_neg (by omega)) (fun i hi=>(hh i hi).imp (fun e=>e) fun ⟨e1,e2,e3⟩=>⟨e1,fun q x hx=>by
   have:=hK x _ hx (fun e=>by injection e with e _;exact e2 e)
   rwa [show f (i,q)=(i,q) from appKey_out e2 e3] at this⟩) hn hgt (fun L' hL'=>by
    rcases hB with hB | ⟨hsp,C,t,fr,h1,h2,h3,h4⟩
    ·exact .inl hB
    ·refine .inr ⟨by rw[hmn];exact hsp,C,t,fr,by rw[hmn];exact h1,h2,by rw[hmn];exact h3,?_⟩
     rw[hmn]
     exact block hI hL' hK h4) hlow hfr
  unfold OpOk Oper.wp
  rw[hr]
  refine ⟨true,n+1,.own n,h',κ',_,_,hk,Nat.le_succ _,rfl,?_,R',S,fun e=>(by cases e),fun j hj _=>if_neg (by omega),L'⟩
  show liveV w' κ' (fun i=>if i=n then ad else m i) (n+1) h' (.own n) _
  refine ⟨Nat.lt_succ_self _,⟨_,_,_,rfl⟩,?_⟩
  rw[hn]
  refine ⟨A',cap',by simp,by simpa using hcap,?_⟩
  rw[hmn]
  exact hA
 have plain:∀ w':World,w'.heap=w.heap→(∀ x K,κ x=some (.key K)→K≠(id,[])→mapKey κ f x=some (.key (f K))∧w'.heap[x]?=w.heap[x]?):=fun w' hw x K hx _=>⟨mapKey_key hx,by rw[hw]⟩
 by_cases hin:base.length+rows.length≤cap
 ·rcases X.mem with hc0 | ⟨b,off,C,t,fr,hA,hw,hfr,hκ,hsz⟩
  ·have hb0:base=[]:=List.eq_nil_of_length_eq_zero (by omega)
   have hr0:rows=[]:=List.eq_nil_of_length_eq_zero (by omega)
   have hn0:news=[]:=List.eq_nil_of_length_eq_zero (by rw[nlen,hr0];simp)
   refine fin w (mapKey κ f) default cap A (hrun _ _ ?_) (fun x hx=>⟨mapKey_imm hx,rfl⟩) (plain w rfl) (.inl (by rw[hb0,hr0];rfl)) (.inl hc0) hin ⟨rfl,rfl,rfl,Nat.le_refl _,fun _ _ _=>rfl,fun _ hx=>mapKey_imm hx,fun _ _ hx=>mapKey_none hx,fun _ C0 _ _ hx=>⟨C0,hx,rfl⟩⟩ (fun b g hb=>by obtain ⟨g',hg⟩:=mapKey_some hb;exact R.low _ _ hg) (fun b i p hb=>keyinv hb)
   rw[hx]
   refine run_app_in T Y.len Y.first hin ?_
   subst hn0
   cases A<;>rfl
  ·subst hA
   have hCsz:off+base.length*k+news.length≤C.size:=by
    have:(base.length+rows.length)*k≤cap*k:=Nat.mul_le_mul_right _ hin
    rw[Nat.add_mul] at this
    omega
   obtain ⟨g1,g2⟩:=fold_set (off+base.length*k) news 0 C (by omega)
   have hst:=run_storeCells_fr (P:=P) b (off+base.length*k) t fr news 0 C w hw hfr (by omega) Y.one
   generalize hC':((news.zipIdx 0).foldl (fun cs (x:Value×Nat)=>cs.setIfInBounds (off+base.length*k+x.2) x.1) C)=C' at g1 g2 hst
   have hne':∀ x,x≠b→(w.setRow b C').heap[x]?=w.heap[x]?:=fun x hx=>setRow_other w b x C' hx
   have hnew:=setRow_heap w b C C' t fr hw
   have hfr':freeC k C' fr:=⟨fun j hj=>hfr.1 j (by omega),fun hk=>by have:=hfr.2 hk;omega⟩
   have hκ':mapKey κ f b=some (.key (n,[])):=by rw[mapKey_key hκ];simp[f,appKey]
   refine fin (w.setRow b C') (mapKey κ f) ⟨b,off,none⟩ cap (some ⟨b,off,none⟩) (hrun _ _ ?_) (fun x hx1=>⟨mapKey_imm hx1,hne' x fun e=>by rw[e,hκ] at hx1;cases hx1⟩) (fun x K hx1 hK=>⟨mapKey_key hx1,hne' x fun e=>by rw[e,hκ] at hx1;injection hx1 with hx1;injection hx1 with hx1;exact hK hx1.symm⟩)
    (.inr ⟨rfl,C',t,fr,hnew,hfr',hκ',fun p u hp=>?_⟩) (.inr ⟨rfl,rfl,C',t,fr,hnew,hfr',hκ',by rw[g1];exact hsz⟩) hin ⟨rfl,rfl,rfl,by simp,fun x hx1 hK=>hne' x fun e=>hK (id,[]) (e▸hκ),fun _ hx=>mapKey_imm hx,fun _ _ hx=>mapKey_none hx,fun z0 C0 t0 fr0 hz0=>(by
    by_cases e:z0=b
    ·rw[e,hw] at hz0;injection hz0 with hz0;injection hz0 with hz1 hz2 hz3
     rw[e,←hz1,←hz2,←hz3]
     exact ⟨C',hnew,g1⟩
    ·exact ⟨C0,(hne' z0 e).trans hz0,rfl⟩)⟩ (fun b g hb=>by obtain ⟨g',hg⟩:=mapKey_some hb;have:=R.low _ _ hg;simpa using this) (fun b i p hb=>keyinv hb)
   ·rw[hx]
    refine run_app_in T Y.len Y.first hin ?_
    show (storeCells ((⟨b,off,none⟩:Addr).add (base.length*k)) news).run P w=_
    rw[add_plain]
    exact hst
   ·show C'[off+p]?=some u
    rw[g2]
    by_cases e:p < olds.length
    ·rw[List.getElem?_append_left e] at hp
     rw[if_neg (by omega)]
     obtain ⟨b',off',e1,e2⟩:=X.cells p u hp
     cases e1
     rw[cell_of_heap hw] at e2
     exact e2
    ·rw[List.getElem?_append_right (by omega)] at hp
     have hlt:p - olds.length < news.length:=(List.getElem?_eq_some_iff.1 hp).1
     rw[if_pos (by omega),show off+p - (off+base.length*k+0)=p - olds.length by omega]
     exact hp
 ·have hfo:∀ w':World,w'.heap=w.heap→(Builtin.firstCells k base.length (.slice A base.length cap)).run P w'= .ok olds.toArray w':=fun w' hw'=>by
   cases A with
   | none=>
    have:olds=[]:=by
     cases olds with
     | nil=>rfl
     | cons u l=>obtain ⟨_,_,e,_⟩:=X.cells 0 u rfl;cases e
    rw[this]
    exact run_firstCells_none _ _ _ _ _
   | some ad=>
    refine run_firstCells_some w' k base.length ad base.length cap olds olen fun j u hj=>?_
    obtain ⟨b,off,e1,e2⟩:=X.cells j u hj
    cases e1
    rw[add_plain]
    simpa [World.cell?,hw'] using e2
  have happ:=run_app_new T (ty:=o.type) Y.len Y.first hfo (by omega) hb
  rw[←hx] at happ
  have hcapge:=grownCap_ge w (base.length+rows.length) cap e
  generalize hC':olds.toArray++(news.toArray++Builtin.zeroCells z.cells (grownCap w (base.length+rows.length) cap e - (base.length+rows.length)))=C' at happ
  have hCs:C'.size=grownCap w (base.length+rows.length) cap e*k:=by
   rw[←hC']
   simp only[Array.size_append,List.size_toArray,zero_size,hz,olen,nlen]
   have:(grownCap w (base.length+rows.length) cap e - (base.length+rows.length))*k+(base.length+rows.length)*k=grownCap w (base.length+rows.length) cap e*k:=by rw[←Nat.add_mul];congr 1;omega
   rw[Nat.add_mul] at this
   omega
  have hold:∀ x,x < w.heap.size→(w.drew.alloc (.cells C' e)).heap[x]?=w.heap[x]?:=fun x hx=>RowKit.Below.heap_alloc w.drew _ x hx
  have hnew:(w.drew.alloc (.cells C' e)).heap[w.heap.size]?=some (.cells C' e (0,0)):=alloc_new w.drew _
  have hκ0:κ w.heap.size=none:=by
   cases e:κ w.heap.size with
   | none=>rfl
   | some g=>exact absurd (R.low _ _ e) (Nat.lt_irrefl _)
  let κ':Gh:=fun x=>if x=w.heap.size then some (.key (n,[])) else mapKey κ f x
  have hlt:∀ {x g},κ x=some g→κ' x=mapKey κ f x∧(w.drew.alloc (.cells C' e)).heap[x]?=w.heap[x]?:=fun {x g} hx=>by
   have:=R.low x g hx
   exact ⟨if_neg (by omega),hold x this⟩
  have hsize:(w.drew.alloc (.cells C' e)).heap.size=w.heap.size+1:=alloc_size w.drew _
  refine fin (w.drew.alloc (.cells C' e)) κ' ⟨w.heap.size,0,none⟩ (grownCap w (base.length+rows.length) cap e) (some ⟨w.heap.size,0,none⟩) (hrun _ _ happ) (fun x hx=>⟨by rw[(hlt hx).1];exact mapKey_imm hx,(hlt hx).2⟩) (fun x K hx _=>⟨by rw[(hlt hx).1];exact mapKey_key hx,(hlt hx).2⟩)
   (.inr ⟨rfl,C',e,(0,0),hnew,freeC_none _ _,if_pos rfl,fun p u hp=>?_⟩) (.inr ⟨rfl,rfl,C',e,(0,0),hnew,freeC_none _ _,if_pos rfl,by rw[hCs];simp⟩) hcapge
   ⟨rfl,rfl,rfl,by rw[hsize];exact Nat.le_succ _,fun x hx _=>hold x hx,fun x hx=>by rw[(hlt hx).1];exact mapKey_imm hx,fun x hx h0=>by simp only[κ'];rw[if_neg (by omega)];exact mapKey_none h0,fun x C0 t0 fr0 hx=>⟨C0,(hold x (Array.getElem?_eq_some_iff.1 hx).1).trans hx,rfl⟩⟩ (fun x g hx=>?_) (fun x i p hx=>?_)
  ·rw[←hC',Nat.zero_add]
   have hplt:p < (olds++news).length:=(List.getElem?_eq_some_iff.1 hp).1
   rw[←Array.append_assoc,Array.getElem?_append_left (by simpa using hplt)]
   simpa using hp
  ·rw[hsize]
   by_cases e1:x=w.heap.size
   ·omega
   ·simp only[κ'] at hx
    rw[if_neg e1] at hx
    obtain ⟨g',hg⟩:=mapKey_some hx
    have:=R.low _ _ hg;omega
  ·by_cases e1:x=w.heap.size
   ·subst e1
    simp only[κ',if_true] at hx
    injection hx with hx;injection hx with hx;injection hx with hx _;omega
   ·simp only[κ'] at hx
    rw[if_neg e1] at hx
    exact keyinv hx
end
end Go.Proofs.VI
end
