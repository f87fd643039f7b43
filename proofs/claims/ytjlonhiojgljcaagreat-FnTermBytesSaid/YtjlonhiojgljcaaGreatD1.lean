/- Contracts of functions, and what they rest on: base data. -/
import Derived.Test.YtjlonhiojgljcaaGreatL5
import Derived.IntWalk
set_option linter.unusedVariables false
set_option linter.unusedSimpArgs false
set_option maxRecDepth 10000
set_option maxHeartbeats 4000000
namespace Go.Proofs.VI
open Go
mutual
theorem toRo_idem:∀ v:AV,toRo (toRo v)=toRo v
 | .ow k rows=>by simp only[toRo,toRoRows_idem rows]
 | .ro k rows=>by simp only[toRo,toRoRows_idem rows]
 | .agg cs=>by simp only[toRo,toRoL_idem cs]
 | .tup cs=>by simp only[toRo,toRoL_idem cs]
 | .pb row=>by simp only[toRo,toRoL_idem row]
 | .rp row c=>by simp only[toRo,toRoL_idem row]
 | .fn f cs=>by simp only[toRo,toRoL_idem cs]
 | .und=>rfl
 | .int _ _=>rfl
 | .bool _=>rfl
 | .tt=>rfl
 | .ff=>rfl
 | .str _=>rfl
 | .nilp=>rfl
 | .ptr _ _ _=>rfl
 | .own _=>rfl
 | .sl _ _ _=>rfl
 | .nili=>rfl
 | .ifc=>rfl
 | .nils=>rfl
theorem toRoL_idem:∀ l:List AV,toRoL (toRoL l)=toRoL l
 | []=>rfl
 | v::r=>by simp only[toRoL,toRo_idem v,toRoL_idem r]
theorem toRoRows_idem:∀ l:List (List AV),toRoRows (toRoRows l)=toRoRows l
 | []=>rfl
 | v::r=>by simp only[toRoRows,toRoL_idem v,toRoRows_idem r]
end
theorem w64 {x:Int} (h0: -9223372036854775808≤x) (h1:x≤9223372036854775807):IntKind.wrap .i64 x=x:=IntWalk.i64_in x ⟨h0,h1⟩
theorem Sim.of_eq {a b:AV} (h:a=b):Sim a b:=h▸ .refl _
theorem Sim.i64 {a b:Int} (h:a=b):Sim (tuple [.int .i64 a]) (.int .i64 b):=h▸ .refl _
theorem map_get {α:Type} {f:α→List AV} (l:List α) (i:Nat) (h:i < l.length):(l.map f)[i]?=some (f l[i]):=by simp[h]
theorem modify_end {α:Type} (a:List α) (x:α) (f:α→α):(a++[x]).modify (a.length+0) f=a++[f x]:=by
 induction a with
 | nil=>rfl
 | cons y l ih=>simp only[List.length_cons,List.cons_append,Nat.add_zero,List.modify_succ_cons] at ih⊢;rw[ih]
def bulkS {α:Type} (f:α→Nat):List α→Nat
 | []=>0
 | x::l=>1+f x+bulkS f l
theorem toRo_map {α:Type} {f g:α→List AV} (l:List α) (h:∀ x∈l,toRoL (f x)=g x):toRoRows (l.map f)=l.map g:=by
 induction l with
 | nil=>rfl
 | cons x l ih=>rw[List.map_cons,toRoRows,h x (by simp),ih fun x hx=>h x (by simp[hx])];rfl
theorem noRo_map {α:Type} {f:α→List AV} (l:List α) (h:∀ x∈l,noRoL (f x)):noRoRows (l.map f):=by
 induction l with
 | nil=>trivial
 | cons x l ih=>exact ⟨h x (by simp),ih fun x hx=>h x (by simp[hx])⟩
def dig (n:Nat):List UInt8:=if h:n=0 then [] else dig (n/10)++[(48+n % 10).toUInt8]
termination_by n
decreasing_by omega
def bytes (l:List UInt8):ByteArray:=⟨l.toArray⟩
theorem bytes_append (a b:List UInt8):bytes a++bytes b=bytes (a++b):=by
 apply ByteArray.ext;simp[bytes]
theorem bytes_size (a:List UInt8):(bytes a).size=a.length:=by simp[bytes,ByteArray.size]
def mtext (k:Int):ByteArray:=if k≤0 then bytes [109,48] else bytes ([109]++dig k.toNat)
def markS {α:Type} (m:α→Int→α) (w:α→Nat):List α→Int→List α
 | [],_=>[]
 | x::l,k=>m x k::markS m w l (k+w x)
def cntS {α:Type} (w:α→Nat):List α→Nat
 | []=>0
 | x::l=>w x+cntS w l
theorem any_hit {α:Type} (p:α→Bool) (l:List α) (i:Nat) (h:i < l.length) (hp:p l[i]=true):l.any p=true:=List.any_eq_true.2 ⟨_,List.getElem_mem h,hp⟩
def idxOf {α:Type} (p:α→Bool) (l:List α):Int:=if l.findIdx p < l.length then (l.findIdx p:Int) else -1
theorem idxOf_any {α:Type} (p:α→Bool) (l:List α):decide (0≤idxOf p l)=l.any p:=by
 rw[idxOf]
 rcases Nat.lt_or_ge (l.findIdx p) l.length with h | h
 ·rw[if_pos h,any_hit p l _ h List.findIdx_getElem]
  simp
 ·rw[if_neg (by omega)]
  have:l.any p=false:=by
   rw[List.any_eq_false]
   intro x hx
   have:=List.findIdx_eq_length.1 (show l.findIdx p=l.length from Nat.le_antisymm List.findIdx_le_length h)
   simpa using this x hx
  rw[this];rfl
abbrev GInt:=Int
def GInt.ro (x:GInt):List AV:=[.int .i64 x]
abbrev GInt.ow (x:GInt):List AV:=GInt.ro x
def GInt.ok (x:GInt):Prop:= -9223372036854775808≤x∧x≤9223372036854775807
def GInt.fit (_:GInt):Prop:=True
def GInt.bulk (_:GInt):Nat:=0
theorem GInt.toRo_ow (x:GInt):toRoL (GInt.ow x)=GInt.ro x:=rfl
theorem GInt.noRo_ow (x:GInt):noRoL (GInt.ow x):=⟨trivial,trivial⟩
abbrev GInt.ros (l:List GInt):List (List AV):=l.map GInt.ro
abbrev GInt.ows (l:List GInt):List (List AV):=l.map GInt.ow
theorem GInt.ros_eq (l:List GInt):GInt.ros l=l.map GInt.ro:=rfl
theorem GInt.ows_eq (l:List GInt):GInt.ows l=l.map GInt.ow:=rfl
theorem GInt.toRo_ows (l:List GInt) (h:∀ x∈l,toRoL (GInt.ow x)=GInt.ro x):toRoRows (GInt.ows l)=GInt.ros l:=by
 rw[GInt.ows_eq,GInt.ros_eq];exact toRo_map l h
theorem GInt.noRo_ows (l:List GInt) (h:∀ x∈l,noRoL (GInt.ow x)):noRoRows (GInt.ows l):=by
 rw[GInt.ows_eq];exact noRo_map l h
abbrev GByte:=UInt8
def GByte.ro (x:GByte):List AV:=[.int .u8 (x.toNat:Int)]
abbrev GByte.ow (x:GByte):List AV:=GByte.ro x
def GByte.ok (x:GByte):Prop:=True
def GByte.fit (_:GByte):Prop:=True
def GByte.bulk (_:GByte):Nat:=0
theorem GByte.toRo_ow (x:GByte):toRoL (GByte.ow x)=GByte.ro x:=rfl
theorem GByte.noRo_ow (x:GByte):noRoL (GByte.ow x):=⟨trivial,trivial⟩
abbrev GByte.ros (l:List GByte):List (List AV):=l.map GByte.ro
abbrev GByte.ows (l:List GByte):List (List AV):=l.map GByte.ow
theorem GByte.ros_eq (l:List GByte):GByte.ros l=l.map GByte.ro:=rfl
theorem GByte.ows_eq (l:List GByte):GByte.ows l=l.map GByte.ow:=rfl
theorem GByte.toRo_ows (l:List GByte) (h:∀ x∈l,toRoL (GByte.ow x)=GByte.ro x):toRoRows (GByte.ows l)=GByte.ros l:=by
 rw[GByte.ows_eq,GByte.ros_eq];exact toRo_map l h
theorem GByte.noRo_ows (l:List GByte) (h:∀ x∈l,noRoL (GByte.ow x)):noRoRows (GByte.ows l):=by
 rw[GByte.ows_eq];exact noRo_map l h
abbrev GString:=ByteArray
def GString.ro (x:GString):List AV:=[.str x]
abbrev GString.ow (x:GString):List AV:=GString.ro x
def GString.ok (x:GString):Prop:=x.size≤9223372036854775807
def GString.fit (_:GString):Prop:=True
def GString.bulk (x:GString):Nat:=x.size
theorem GString.toRo_ow (x:GString):toRoL (GString.ow x)=GString.ro x:=rfl
theorem GString.noRo_ow (x:GString):noRoL (GString.ow x):=⟨trivial,trivial⟩
abbrev GString.ros (l:List GString):List (List AV):=l.map GString.ro
abbrev GString.ows (l:List GString):List (List AV):=l.map GString.ow
theorem GString.ros_eq (l:List GString):GString.ros l=l.map GString.ro:=rfl
theorem GString.ows_eq (l:List GString):GString.ows l=l.map GString.ow:=rfl
theorem GString.toRo_ows (l:List GString) (h:∀ x∈l,toRoL (GString.ow x)=GString.ro x):toRoRows (GString.ows l)=GString.ros l:=by
 rw[GString.ows_eq,GString.ros_eq];exact toRo_map l h
theorem GString.noRo_ows (l:List GString) (h:∀ x∈l,noRoL (GString.ow x)):noRoRows (GString.ows l):=by
 rw[GString.ows_eq];exact noRo_map l h
structure GOpd where
 mode:Int
 reg:Int
 x:Int
def GOpd.ro (a:GOpd):List AV:=[.int .i64 a.mode,.int .i64 a.reg,.int .i64 a.x]
abbrev GOpd.ow (a:GOpd):List AV:=GOpd.ro a
def GOpd.ok (a:GOpd):Prop:=(-9223372036854775808≤a.mode∧a.mode≤9223372036854775807)∧(-9223372036854775808≤a.reg∧a.reg≤9223372036854775807)∧(-9223372036854775808≤a.x∧a.x≤9223372036854775807)
def GOpd.fit (_:GOpd):Prop:=True
def GOpd.bulk (a:GOpd):Nat:=0
theorem GOpd.ok_un {a:GOpd} (h:GOpd.ok a):(-9223372036854775808≤a.mode∧a.mode≤9223372036854775807)∧(-9223372036854775808≤a.reg∧a.reg≤9223372036854775807)∧(-9223372036854775808≤a.x∧a.x≤9223372036854775807):=h
theorem GOpd.toRo_ow (a:GOpd):toRoL (GOpd.ow a)=GOpd.ro a:=rfl
theorem GOpd.noRo_ow (a:GOpd):noRoL (GOpd.ow a):=⟨trivial,trivial,trivial,trivial⟩
def GOpd.zero:List AV:=[.int .i64 0,.int .i64 0,.int .i64 0]
abbrev GOpd.ros (l:List GOpd):List (List AV):=l.map GOpd.ro
abbrev GOpd.ows (l:List GOpd):List (List AV):=l.map GOpd.ow
theorem GOpd.ros_eq (l:List GOpd):GOpd.ros l=l.map GOpd.ro:=rfl
theorem GOpd.ows_eq (l:List GOpd):GOpd.ows l=l.map GOpd.ow:=rfl
theorem GOpd.toRo_ows (l:List GOpd) (h:∀ x∈l,toRoL (GOpd.ow x)=GOpd.ro x):toRoRows (GOpd.ows l)=GOpd.ros l:=by
 rw[GOpd.ows_eq,GOpd.ros_eq];exact toRo_map l h
theorem GOpd.noRo_ows (l:List GOpd) (h:∀ x∈l,noRoL (GOpd.ow x)):noRoRows (GOpd.ows l):=by
 rw[GOpd.ows_eq];exact noRo_map l h
structure GIns where
 op:Int
 src:GOpd
 dst:GOpd
 n:Int
def GIns.ro (a:GIns):List AV:=[.int .i64 a.op,.int .i64 a.src.mode,.int .i64 a.src.reg,.int .i64 a.src.x,.int .i64 a.dst.mode,.int .i64 a.dst.reg,.int .i64 a.dst.x,.int .i64 a.n]
abbrev GIns.ow (a:GIns):List AV:=GIns.ro a
def GIns.ok (a:GIns):Prop:=(-9223372036854775808≤a.op∧a.op≤9223372036854775807)∧GOpd.ok a.src∧GOpd.ok a.dst∧(-9223372036854775808≤a.n∧a.n≤9223372036854775807)
def GIns.fit (_:GIns):Prop:=True
def GIns.bulk (a:GIns):Nat:=0
theorem GIns.ok_un {a:GIns} (h:GIns.ok a):(-9223372036854775808≤a.op∧a.op≤9223372036854775807)∧GOpd.ok a.src∧GOpd.ok a.dst∧(-9223372036854775808≤a.n∧a.n≤9223372036854775807):=h
theorem GIns.toRo_ow (a:GIns):toRoL (GIns.ow a)=GIns.ro a:=rfl
theorem GIns.noRo_ow (a:GIns):noRoL (GIns.ow a):=⟨trivial,trivial,trivial,trivial,trivial,trivial,trivial,trivial,trivial⟩
def GIns.zero:List AV:=[.int .i64 0,.int .i64 0,.int .i64 0,.int .i64 0,.int .i64 0,.int .i64 0,.int .i64 0,.int .i64 0]
abbrev GIns.ros (l:List GIns):List (List AV):=l.map GIns.ro
abbrev GIns.ows (l:List GIns):List (List AV):=l.map GIns.ow
theorem GIns.ros_eq (l:List GIns):GIns.ros l=l.map GIns.ro:=rfl
theorem GIns.ows_eq (l:List GIns):GIns.ows l=l.map GIns.ow:=rfl
theorem GIns.toRo_ows (l:List GIns) (h:∀ x∈l,toRoL (GIns.ow x)=GIns.ro x):toRoRows (GIns.ows l)=GIns.ros l:=by
 rw[GIns.ows_eq,GIns.ros_eq];exact toRo_map l h
theorem GIns.noRo_ows (l:List GIns) (h:∀ x∈l,noRoL (GIns.ow x)):noRoRows (GIns.ows l):=by
 rw[GIns.ows_eq];exact noRo_map l h
structure GMach where
 mem:List Int
 r:List Int
 n:Bool
 z:Bool
 v:Bool
 c:Bool
 inp:List Int
 out:List Int
 stop:Int
def GMach.ro (a:GMach):List AV:=[.ro 1 (GInt.ros a.mem),.ro 1 (GInt.ros a.r),.bool a.n,.bool a.z,.bool a.v,.bool a.c,.ro 1 (GInt.ros a.inp),.ro 1 (GInt.ros a.out),.int .i64 a.stop]
def GMach.ow (a:GMach):List AV:=[.ow 1 (GInt.ows a.mem),.ow 1 (GInt.ows a.r),.bool a.n,.bool a.z,.bool a.v,.bool a.c,.ow 1 (GInt.ows a.inp),.ow 1 (GInt.ows a.out),.int .i64 a.stop]
def GMach.ok (a:GMach):Prop:=(a.mem.length≤9223372036854775807∧∀ x∈a.mem,GInt.ok x)∧(a.r.length≤9223372036854775807∧∀ x∈a.r,GInt.ok x)∧True∧True∧True∧True∧(a.inp.length≤9223372036854775807∧∀ x∈a.inp,GInt.ok x)∧(a.out.length≤9223372036854775807∧∀ x∈a.out,GInt.ok x)∧(-9223372036854775808≤a.stop∧a.stop≤9223372036854775807)
def GMach.fit (a:GMach):Prop:=(a.mem.length≤1099511627776∧∀ x∈a.mem,GInt.fit x)∧(a.r.length≤1099511627776∧∀ x∈a.r,GInt.fit x)∧(a.inp.length≤1099511627776∧∀ x∈a.inp,GInt.fit x)∧(a.out.length≤1099511627776∧∀ x∈a.out,GInt.fit x)
def GMach.bulk (a:GMach):Nat:=bulkS GInt.bulk a.mem+bulkS GInt.bulk a.r+bulkS GInt.bulk a.inp+bulkS GInt.bulk a.out
theorem GMach.ok_un {a:GMach} (h:GMach.ok a):(a.mem.length≤9223372036854775807∧∀ x∈a.mem,GInt.ok x)∧(a.r.length≤9223372036854775807∧∀ x∈a.r,GInt.ok x)∧True∧True∧True∧True∧(a.inp.length≤9223372036854775807∧∀ x∈a.inp,GInt.ok x)∧(a.out.length≤9223372036854775807∧∀ x∈a.out,GInt.ok x)∧(-9223372036854775808≤a.stop∧a.stop≤9223372036854775807):=h
theorem GMach.fit_un {a:GMach} (h:GMach.fit a):(a.mem.length≤1099511627776∧∀ x∈a.mem,GInt.fit x)∧(a.r.length≤1099511627776∧∀ x∈a.r,GInt.fit x)∧(a.inp.length≤1099511627776∧∀ x∈a.inp,GInt.fit x)∧(a.out.length≤1099511627776∧∀ x∈a.out,GInt.fit x):=h
theorem GMach.fit_mk {a:GMach} (h:(a.mem.length≤1099511627776∧∀ x∈a.mem,GInt.fit x)∧(a.r.length≤1099511627776∧∀ x∈a.r,GInt.fit x)∧(a.inp.length≤1099511627776∧∀ x∈a.inp,GInt.fit x)∧(a.out.length≤1099511627776∧∀ x∈a.out,GInt.fit x)):GMach.fit a:=h
theorem GMach.toRo_ow (a:GMach):toRoL (GMach.ow a)=GMach.ro a:=by
 simp only[GMach.ow,GMach.ro,toRoL,toRo,GInt.toRo_ows a.mem fun x _=>GInt.toRo_ow x,GInt.toRo_ows a.r fun x _=>GInt.toRo_ow x,GInt.toRo_ows a.inp fun x _=>GInt.toRo_ow x,GInt.toRo_ows a.out fun x _=>GInt.toRo_ow x]
theorem GMach.noRo_ow (a:GMach):noRoL (GMach.ow a):=⟨GInt.noRo_ows a.mem fun x _=>GInt.noRo_ow x,GInt.noRo_ows a.r fun x _=>GInt.noRo_ow x,trivial,trivial,trivial,trivial,GInt.noRo_ows a.inp fun x _=>GInt.noRo_ow x,GInt.noRo_ows a.out fun x _=>GInt.noRo_ow x,trivial,trivial⟩
def GMach.zero:List AV:=[.nils,.nils,.ff,.ff,.ff,.ff,.nils,.nils,.int .i64 0]
abbrev GMach.ros (l:List GMach):List (List AV):=l.map GMach.ro
abbrev GMach.ows (l:List GMach):List (List AV):=l.map GMach.ow
theorem GMach.ros_eq (l:List GMach):GMach.ros l=l.map GMach.ro:=rfl
theorem GMach.ows_eq (l:List GMach):GMach.ows l=l.map GMach.ow:=rfl
theorem GMach.toRo_ows (l:List GMach) (h:∀ x∈l,toRoL (GMach.ow x)=GMach.ro x):toRoRows (GMach.ows l)=GMach.ros l:=by
 rw[GMach.ows_eq,GMach.ros_eq];exact toRo_map l h
theorem GMach.noRo_ows (l:List GMach) (h:∀ x∈l,noRoL (GMach.ow x)):noRoRows (GMach.ows l):=by
 rw[GMach.ows_eq];exact noRo_map l h
structure GPlace where
 reg:Int
 pos:Int
def GPlace.ro (a:GPlace):List AV:=[.int .i64 a.reg,.int .i64 a.pos]
abbrev GPlace.ow (a:GPlace):List AV:=GPlace.ro a
def GPlace.ok (a:GPlace):Prop:=(-9223372036854775808≤a.reg∧a.reg≤9223372036854775807)∧(-9223372036854775808≤a.pos∧a.pos≤9223372036854775807)
def GPlace.fit (_:GPlace):Prop:=True
def GPlace.bulk (a:GPlace):Nat:=0
theorem GPlace.ok_un {a:GPlace} (h:GPlace.ok a):(-9223372036854775808≤a.reg∧a.reg≤9223372036854775807)∧(-9223372036854775808≤a.pos∧a.pos≤9223372036854775807):=h
theorem GPlace.toRo_ow (a:GPlace):toRoL (GPlace.ow a)=GPlace.ro a:=rfl
theorem GPlace.noRo_ow (a:GPlace):noRoL (GPlace.ow a):=⟨trivial,trivial,trivial⟩
def GPlace.zero:List AV:=[.int .i64 0,.int .i64 0]
abbrev GPlace.ros (l:List GPlace):List (List AV):=l.map GPlace.ro
abbrev GPlace.ows (l:List GPlace):List (List AV):=l.map GPlace.ow
theorem GPlace.ros_eq (l:List GPlace):GPlace.ros l=l.map GPlace.ro:=rfl
theorem GPlace.ows_eq (l:List GPlace):GPlace.ows l=l.map GPlace.ow:=rfl
theorem GPlace.toRo_ows (l:List GPlace) (h:∀ x∈l,toRoL (GPlace.ow x)=GPlace.ro x):toRoRows (GPlace.ows l)=GPlace.ros l:=by
 rw[GPlace.ows_eq,GPlace.ros_eq];exact toRo_map l h
theorem GPlace.noRo_ows (l:List GPlace) (h:∀ x∈l,noRoL (GPlace.ow x)):noRoRows (GPlace.ows l):=by
 rw[GPlace.ows_eq];exact noRo_map l h
structure GToken where
 k:Int
 n:Int
 s:ByteArray
def GToken.ro (a:GToken):List AV:=[.int .i64 a.k,.int .i64 a.n,.str a.s]
abbrev GToken.ow (a:GToken):List AV:=GToken.ro a
def GToken.ok (a:GToken):Prop:=(-9223372036854775808≤a.k∧a.k≤9223372036854775807)∧(-9223372036854775808≤a.n∧a.n≤9223372036854775807)∧a.s.size≤9223372036854775807
def GToken.fit (_:GToken):Prop:=True
def GToken.bulk (a:GToken):Nat:=a.s.size
theorem GToken.ok_un {a:GToken} (h:GToken.ok a):(-9223372036854775808≤a.k∧a.k≤9223372036854775807)∧(-9223372036854775808≤a.n∧a.n≤9223372036854775807)∧a.s.size≤9223372036854775807:=h
theorem GToken.toRo_ow (a:GToken):toRoL (GToken.ow a)=GToken.ro a:=rfl
theorem GToken.noRo_ow (a:GToken):noRoL (GToken.ow a):=⟨trivial,trivial,trivial,trivial⟩
def GToken.zero:List AV:=[.int .i64 0,.int .i64 0,.str ⟨#[]⟩]
abbrev GToken.ros (l:List GToken):List (List AV):=l.map GToken.ro
abbrev GToken.ows (l:List GToken):List (List AV):=l.map GToken.ow
theorem GToken.ros_eq (l:List GToken):GToken.ros l=l.map GToken.ro:=rfl
theorem GToken.ows_eq (l:List GToken):GToken.ows l=l.map GToken.ow:=rfl
theorem GToken.toRo_ows (l:List GToken) (h:∀ x∈l,toRoL (GToken.ow x)=GToken.ro x):toRoRows (GToken.ows l)=GToken.ros l:=by
 rw[GToken.ows_eq,GToken.ros_eq];exact toRo_map l h
theorem GToken.noRo_ows (l:List GToken) (h:∀ x∈l,noRoL (GToken.ow x)):noRoRows (GToken.ows l):=by
 rw[GToken.ows_eq];exact noRo_map l h
abbrev GTokenS:=List GToken
def GTokenS.ro (x:GTokenS):List AV:=[.ro 3 (GToken.ros x)]
def GTokenS.ow (x:GTokenS):List AV:=[.ow 3 (GToken.ows x)]
def GTokenS.ok (x:GTokenS):Prop:=x.length≤9223372036854775807∧∀ y∈x,GToken.ok y
def GTokenS.fit (x:GTokenS):Prop:=x.length≤1099511627776∧∀ y∈x,GToken.fit y
abbrev GTokenS.bulk (x:GTokenS):Nat:=bulkS GToken.bulk x
theorem GTokenS.toRo_ow (x:GTokenS):toRoL (GTokenS.ow x)=GTokenS.ro x:=by
 simp only[GTokenS.ow,GTokenS.ro,toRoL,toRo,GToken.toRo_ows x fun y _=>GToken.toRo_ow y]
theorem GTokenS.noRo_ow (x:GTokenS):noRoL (GTokenS.ow x):=⟨GToken.noRo_ows x fun y _=>GToken.noRo_ow y,trivial⟩
abbrev GTokenS.ros (l:List GTokenS):List (List AV):=l.map GTokenS.ro
abbrev GTokenS.ows (l:List GTokenS):List (List AV):=l.map GTokenS.ow
theorem GTokenS.ros_eq (l:List GTokenS):GTokenS.ros l=l.map GTokenS.ro:=rfl
theorem GTokenS.ows_eq (l:List GTokenS):GTokenS.ows l=l.map GTokenS.ow:=rfl
theorem GTokenS.toRo_ows (l:List GTokenS) (h:∀ x∈l,toRoL (GTokenS.ow x)=GTokenS.ro x):toRoRows (GTokenS.ows l)=GTokenS.ros l:=by
 rw[GTokenS.ows_eq,GTokenS.ros_eq];exact toRo_map l h
theorem GTokenS.noRo_ows (l:List GTokenS) (h:∀ x∈l,noRoL (GTokenS.ow x)):noRoRows (GTokenS.ows l):=by
 rw[GTokenS.ows_eq];exact noRo_map l h
inductive GExpr where
 | mk (k:Int) (n:Int) (s:ByteArray) (l:List GExpr)
def GExpr.k:GExpr→Int
 | .mk k _ _ _=>k
def GExpr.n:GExpr→Int
 | .mk _ n _ _=>n
def GExpr.s:GExpr→ByteArray
 | .mk _ _ s _=>s
def GExpr.l:GExpr→List GExpr
 | .mk _ _ _ l=>l
mutual
def GExpr.roA:GExpr→List AV
 | .mk k n s l=>[.int .i64 k,.int .i64 n,.str s,.ro 4 (GExpr.ros l)]
def GExpr.ros:List GExpr→List (List AV)
 | []=>[]
 | e::l=>GExpr.roA e::GExpr.ros l
end
def GExpr.ro (a:GExpr):List AV:=[.int .i64 a.k,.int .i64 a.n,.str a.s,.ro 4 (GExpr.ros a.l)]
theorem GExpr.ro_A (a:GExpr):GExpr.roA a=GExpr.ro a:=by
 cases a;rfl
theorem GExpr.ros_eq (l:List GExpr):GExpr.ros l=l.map GExpr.ro:=by
 induction l with
 | nil=>rfl
 | cons e l ih=>rw[GExpr.ros,ih,GExpr.ro_A];rfl
mutual
def GExpr.owA:GExpr→List AV
 | .mk k n s l=>[.int .i64 k,.int .i64 n,.str s,.ow 4 (GExpr.ows l)]
def GExpr.ows:List GExpr→List (List AV)
 | []=>[]
 | e::l=>GExpr.owA e::GExpr.ows l
end
def GExpr.ow (a:GExpr):List AV:=[.int .i64 a.k,.int .i64 a.n,.str a.s,.ow 4 (GExpr.ows a.l)]
theorem GExpr.ow_A (a:GExpr):GExpr.owA a=GExpr.ow a:=by
 cases a;rfl
theorem GExpr.ows_eq (l:List GExpr):GExpr.ows l=l.map GExpr.ow:=by
 induction l with
 | nil=>rfl
 | cons e l ih=>rw[GExpr.ows,ih,GExpr.ow_A];rfl
theorem GExpr.ind {P:GExpr→Prop} (h:∀ a,(∀ x∈a.l,P x)→P a):∀ a,P a
 | .mk k n s l=>h _ fun x hx=>GExpr.ind h x
decreasing_by
 have hx:x∈l:=hx
 have:=List.sizeOf_lt_of_mem hx
 simp only[GExpr.mk.sizeOf_spec];omega
mutual
def GExpr.ok:GExpr→Prop
 | .mk k n s l=>(-9223372036854775808≤k∧k≤9223372036854775807)∧(-9223372036854775808≤n∧n≤9223372036854775807)∧s.size≤9223372036854775807∧l.length≤9223372036854775807∧GExpr.okL l
def GExpr.okL:List GExpr→Prop
 | []=>True
 | e::l=>GExpr.ok e∧GExpr.okL l
end
theorem GExpr.okL_iff (l:List GExpr):GExpr.okL l↔∀ x∈l,GExpr.ok x:=by
 induction l with
 | nil=>simp[GExpr.okL]
 | cons e l ih=>simp[GExpr.okL,ih]
mutual
def GExpr.fit:GExpr→Prop
 | .mk _ _ _ l=>l.length≤1099511627776∧GExpr.fitL l
def GExpr.fitL:List GExpr→Prop
 | []=>True
 | e::l=>GExpr.fit e∧GExpr.fitL l
end
theorem GExpr.fitL_iff (l:List GExpr):GExpr.fitL l↔∀ x∈l,GExpr.fit x:=by
 induction l with
 | nil=>simp[GExpr.fitL]
 | cons e l ih=>simp[GExpr.fitL,ih]
mutual
def GExpr.bulk:GExpr→Nat
 | .mk _ _ s l=>s.size+GExpr.bulkL l
def GExpr.bulkL:List GExpr→Nat
 | []=>0
 | e::l=>1+GExpr.bulk e+GExpr.bulkL l
end
theorem GExpr.ok_un {a:GExpr} (h:GExpr.ok a):(-9223372036854775808≤a.k∧a.k≤9223372036854775807)∧(-9223372036854775808≤a.n∧a.n≤9223372036854775807)∧a.s.size≤9223372036854775807∧(a.l.length≤9223372036854775807∧∀ x∈a.l,GExpr.ok x):=by
 cases a;rw[GExpr.ok,GExpr.okL_iff] at h;exact h
theorem GExpr.fit_un {a:GExpr} (h:GExpr.fit a):(a.l.length≤1099511627776∧∀ x∈a.l,GExpr.fit x):=by
 cases a;rw[GExpr.fit,GExpr.fitL_iff] at h;exact h
theorem GExpr.fit_mk {a:GExpr} (h:(a.l.length≤1099511627776∧∀ x∈a.l,GExpr.fit x)):GExpr.fit a:=by
 cases a;rw[GExpr.fit,GExpr.fitL_iff];exact h
theorem GExpr.toRo_ows (l:List GExpr) (h:∀ x∈l,toRoL (GExpr.ow x)=GExpr.ro x):toRoRows (GExpr.ows l)=GExpr.ros l:=by
 rw[GExpr.ows_eq,GExpr.ros_eq];exact toRo_map l h
theorem GExpr.noRo_ows (l:List GExpr) (h:∀ x∈l,noRoL (GExpr.ow x)):noRoRows (GExpr.ows l):=by
 rw[GExpr.ows_eq];exact noRo_map l h
theorem GExpr.toRo_ow:∀ a:GExpr,toRoL (GExpr.ow a)=GExpr.ro a:=by
 refine GExpr.ind fun a ih=>?_
 simp only[GExpr.ow,GExpr.ro,toRoL,toRo,GExpr.toRo_ows a.l fun x hx=>ih x hx]
theorem GExpr.noRo_ow:∀ a:GExpr,noRoL (GExpr.ow a):=by
 refine GExpr.ind fun a ih=>?_
 exact ⟨trivial,trivial,trivial,GExpr.noRo_ows a.l fun x hx=>ih x hx,trivial⟩
def GExpr.zero:List AV:=[.int .i64 0,.int .i64 0,.str ⟨#[]⟩,.nils]
structure GArg where
 form:Int
 reg:Int
 e:GExpr
def GArg.ro (a:GArg):List AV:=[.int .i64 a.form,.int .i64 a.reg,.int .i64 a.e.k,.int .i64 a.e.n,.str a.e.s,.ro 4 (GExpr.ros a.e.l)]
def GArg.ow (a:GArg):List AV:=[.int .i64 a.form,.int .i64 a.reg,.int .i64 a.e.k,.int .i64 a.e.n,.str a.e.s,.ow 4 (GExpr.ows a.e.l)]
def GArg.ok (a:GArg):Prop:=(-9223372036854775808≤a.form∧a.form≤9223372036854775807)∧(-9223372036854775808≤a.reg∧a.reg≤9223372036854775807)∧GExpr.ok a.e
def GArg.fit (a:GArg):Prop:=GExpr.fit a.e
def GArg.bulk (a:GArg):Nat:=GExpr.bulk a.e
theorem GArg.ok_un {a:GArg} (h:GArg.ok a):(-9223372036854775808≤a.form∧a.form≤9223372036854775807)∧(-9223372036854775808≤a.reg∧a.reg≤9223372036854775807)∧GExpr.ok a.e:=h
theorem GArg.fit_un {a:GArg} (h:GArg.fit a):GExpr.fit a.e:=h
theorem GArg.fit_mk {a:GArg} (h:GExpr.fit a.e):GArg.fit a:=h
theorem GArg.toRo_ow (a:GArg):toRoL (GArg.ow a)=GArg.ro a:=by
 simp only[GArg.ow,GArg.ro,toRoL,toRo,GExpr.toRo_ows a.e.l fun x _=>GExpr.toRo_ow x]
theorem GArg.noRo_ow (a:GArg):noRoL (GArg.ow a):=⟨trivial,trivial,trivial,trivial,trivial,GExpr.noRo_ows a.e.l fun x _=>GExpr.noRo_ow x,trivial⟩
def GArg.zero:List AV:=[.int .i64 0,.int .i64 0,.int .i64 0,.int .i64 0,.str ⟨#[]⟩,.nils]
abbrev GArg.ros (l:List GArg):List (List AV):=l.map GArg.ro
abbrev GArg.ows (l:List GArg):List (List AV):=l.map GArg.ow
theorem GArg.ros_eq (l:List GArg):GArg.ros l=l.map GArg.ro:=rfl
theorem GArg.ows_eq (l:List GArg):GArg.ows l=l.map GArg.ow:=rfl
theorem GArg.toRo_ows (l:List GArg) (h:∀ x∈l,toRoL (GArg.ow x)=GArg.ro x):toRoRows (GArg.ows l)=GArg.ros l:=by
 rw[GArg.ows_eq,GArg.ros_eq];exact toRo_map l h
theorem GArg.noRo_ows (l:List GArg) (h:∀ x∈l,noRoL (GArg.ow x)):noRoRows (GArg.ows l):=by
 rw[GArg.ows_eq];exact noRo_map l h
structure GLine where
 k:Int
 s:ByteArray
 op:Int
 src:GArg
 dst:GArg
 n:Int
 l:List GExpr
def GLine.ro (a:GLine):List AV:=[.int .i64 a.k,.str a.s,.int .i64 a.op,.int .i64 a.src.form,.int .i64 a.src.reg,.int .i64 a.src.e.k,.int .i64 a.src.e.n,.str a.src.e.s,.ro 4 (GExpr.ros a.src.e.l),.int .i64 a.dst.form,.int .i64 a.dst.reg,.int .i64 a.dst.e.k,.int .i64 a.dst.e.n,.str a.dst.e.s,.ro 4 (GExpr.ros a.dst.e.l),.int .i64 a.n,.ro 4 (GExpr.ros a.l)]
def GLine.ow (a:GLine):List AV:=[.int .i64 a.k,.str a.s,.int .i64 a.op,.int .i64 a.src.form,.int .i64 a.src.reg,.int .i64 a.src.e.k,.int .i64 a.src.e.n,.str a.src.e.s,.ow 4 (GExpr.ows a.src.e.l),.int .i64 a.dst.form,.int .i64 a.dst.reg,.int .i64 a.dst.e.k,.int .i64 a.dst.e.n,.str a.dst.e.s,.ow 4 (GExpr.ows a.dst.e.l),.int .i64 a.n,.ow 4 (GExpr.ows a.l)]
def GLine.ok (a:GLine):Prop:=(-9223372036854775808≤a.k∧a.k≤9223372036854775807)∧a.s.size≤9223372036854775807∧(-9223372036854775808≤a.op∧a.op≤9223372036854775807)∧GArg.ok a.src∧GArg.ok a.dst∧(-9223372036854775808≤a.n∧a.n≤9223372036854775807)∧(a.l.length≤9223372036854775807∧∀ x∈a.l,GExpr.ok x)
def GLine.fit (a:GLine):Prop:=GArg.fit a.src∧GArg.fit a.dst∧(a.l.length≤1099511627776∧∀ x∈a.l,GExpr.fit x)
def GLine.bulk (a:GLine):Nat:=a.s.size+GArg.bulk a.src+GArg.bulk a.dst+bulkS GExpr.bulk a.l
theorem GLine.ok_un {a:GLine} (h:GLine.ok a):(-9223372036854775808≤a.k∧a.k≤9223372036854775807)∧a.s.size≤9223372036854775807∧(-9223372036854775808≤a.op∧a.op≤9223372036854775807)∧GArg.ok a.src∧GArg.ok a.dst∧(-9223372036854775808≤a.n∧a.n≤9223372036854775807)∧(a.l.length≤9223372036854775807∧∀ x∈a.l,GExpr.ok x):=h
theorem GLine.fit_un {a:GLine} (h:GLine.fit a):GArg.fit a.src∧GArg.fit a.dst∧(a.l.length≤1099511627776∧∀ x∈a.l,GExpr.fit x):=h
theorem GLine.fit_mk {a:GLine} (h:GArg.fit a.src∧GArg.fit a.dst∧(a.l.length≤1099511627776∧∀ x∈a.l,GExpr.fit x)):GLine.fit a:=h
theorem GLine.toRo_ow (a:GLine):toRoL (GLine.ow a)=GLine.ro a:=by
 simp only[GLine.ow,GLine.ro,toRoL,toRo,GExpr.toRo_ows a.src.e.l fun x _=>GExpr.toRo_ow x,GExpr.toRo_ows a.dst.e.l fun x _=>GExpr.toRo_ow x,GExpr.toRo_ows a.l fun x _=>GExpr.toRo_ow x]
theorem GLine.noRo_ow (a:GLine):noRoL (GLine.ow a):=⟨trivial,trivial,trivial,trivial,trivial,trivial,trivial,trivial,GExpr.noRo_ows a.src.e.l fun x _=>GExpr.noRo_ow x,trivial,trivial,trivial,trivial,trivial,GExpr.noRo_ows a.dst.e.l fun x _=>GExpr.noRo_ow x,trivial,GExpr.noRo_ows a.l fun x _=>GExpr.noRo_ow x,trivial⟩
def GLine.zero:List AV:=[.int .i64 0,.str ⟨#[]⟩,.int .i64 0,.int .i64 0,.int .i64 0,.int .i64 0,.int .i64 0,.str ⟨#[]⟩,.nils,.int .i64 0,.int .i64 0,.int .i64 0,.int .i64 0,.str ⟨#[]⟩,.nils,.int .i64 0,.nils]
abbrev GLine.ros (l:List GLine):List (List AV):=l.map GLine.ro
abbrev GLine.ows (l:List GLine):List (List AV):=l.map GLine.ow
theorem GLine.ros_eq (l:List GLine):GLine.ros l=l.map GLine.ro:=rfl
theorem GLine.ows_eq (l:List GLine):GLine.ows l=l.map GLine.ow:=rfl
theorem GLine.toRo_ows (l:List GLine) (h:∀ x∈l,toRoL (GLine.ow x)=GLine.ro x):toRoRows (GLine.ows l)=GLine.ros l:=by
 rw[GLine.ows_eq,GLine.ros_eq];exact toRo_map l h
theorem GLine.noRo_ows (l:List GLine) (h:∀ x∈l,noRoL (GLine.ow x)):noRoRows (GLine.ows l):=by
 rw[GLine.ows_eq];exact noRo_map l h
structure GSym where
 name:ByteArray
 e:GExpr
def GSym.ro (a:GSym):List AV:=[.str a.name,.int .i64 a.e.k,.int .i64 a.e.n,.str a.e.s,.ro 4 (GExpr.ros a.e.l)]
def GSym.ow (a:GSym):List AV:=[.str a.name,.int .i64 a.e.k,.int .i64 a.e.n,.str a.e.s,.ow 4 (GExpr.ows a.e.l)]
def GSym.ok (a:GSym):Prop:=a.name.size≤9223372036854775807∧GExpr.ok a.e
def GSym.fit (a:GSym):Prop:=GExpr.fit a.e
def GSym.bulk (a:GSym):Nat:=a.name.size+GExpr.bulk a.e
theorem GSym.ok_un {a:GSym} (h:GSym.ok a):a.name.size≤9223372036854775807∧GExpr.ok a.e:=h
theorem GSym.fit_un {a:GSym} (h:GSym.fit a):GExpr.fit a.e:=h
theorem GSym.fit_mk {a:GSym} (h:GExpr.fit a.e):GSym.fit a:=h
theorem GSym.toRo_ow (a:GSym):toRoL (GSym.ow a)=GSym.ro a:=by
 simp only[GSym.ow,GSym.ro,toRoL,toRo,GExpr.toRo_ows a.e.l fun x _=>GExpr.toRo_ow x]
theorem GSym.noRo_ow (a:GSym):noRoL (GSym.ow a):=⟨trivial,trivial,trivial,trivial,GExpr.noRo_ows a.e.l fun x _=>GExpr.noRo_ow x,trivial⟩
def GSym.zero:List AV:=[.str ⟨#[]⟩,.int .i64 0,.int .i64 0,.str ⟨#[]⟩,.nils]
abbrev GSym.ros (l:List GSym):List (List AV):=l.map GSym.ro
abbrev GSym.ows (l:List GSym):List (List AV):=l.map GSym.ow
theorem GSym.ros_eq (l:List GSym):GSym.ros l=l.map GSym.ro:=rfl
theorem GSym.ows_eq (l:List GSym):GSym.ows l=l.map GSym.ow:=rfl
theorem GSym.toRo_ows (l:List GSym) (h:∀ x∈l,toRoL (GSym.ow x)=GSym.ro x):toRoRows (GSym.ows l)=GSym.ros l:=by
 rw[GSym.ows_eq,GSym.ros_eq];exact toRo_map l h
theorem GSym.noRo_ows (l:List GSym) (h:∀ x∈l,noRoL (GSym.ow x)):noRoRows (GSym.ows l):=by
 rw[GSym.ows_eq];exact noRo_map l h
structure GSect where
 name:ByteArray
 over:Bool
 words:List GExpr
def GSect.ro (a:GSect):List AV:=[.str a.name,.bool a.over,.ro 4 (GExpr.ros a.words)]
def GSect.ow (a:GSect):List AV:=[.str a.name,.bool a.over,.ow 4 (GExpr.ows a.words)]
def GSect.ok (a:GSect):Prop:=a.name.size≤9223372036854775807∧True∧(a.words.length≤9223372036854775807∧∀ x∈a.words,GExpr.ok x)
def GSect.fit (a:GSect):Prop:=(a.words.length≤1099511627776∧∀ x∈a.words,GExpr.fit x)
def GSect.bulk (a:GSect):Nat:=a.name.size+bulkS GExpr.bulk a.words
theorem GSect.ok_un {a:GSect} (h:GSect.ok a):a.name.size≤9223372036854775807∧True∧(a.words.length≤9223372036854775807∧∀ x∈a.words,GExpr.ok x):=h
theorem GSect.fit_un {a:GSect} (h:GSect.fit a):(a.words.length≤1099511627776∧∀ x∈a.words,GExpr.fit x):=h
theorem GSect.fit_mk {a:GSect} (h:(a.words.length≤1099511627776∧∀ x∈a.words,GExpr.fit x)):GSect.fit a:=h
theorem GSect.toRo_ow (a:GSect):toRoL (GSect.ow a)=GSect.ro a:=by
 simp only[GSect.ow,GSect.ro,toRoL,toRo,GExpr.toRo_ows a.words fun x _=>GExpr.toRo_ow x]
theorem GSect.noRo_ow (a:GSect):noRoL (GSect.ow a):=⟨trivial,trivial,GExpr.noRo_ows a.words fun x _=>GExpr.noRo_ow x,trivial⟩
def GSect.zero:List AV:=[.str ⟨#[]⟩,.ff,.nils]
abbrev GSect.ros (l:List GSect):List (List AV):=l.map GSect.ro
abbrev GSect.ows (l:List GSect):List (List AV):=l.map GSect.ow
theorem GSect.ros_eq (l:List GSect):GSect.ros l=l.map GSect.ro:=rfl
theorem GSect.ows_eq (l:List GSect):GSect.ows l=l.map GSect.ow:=rfl
theorem GSect.toRo_ows (l:List GSect) (h:∀ x∈l,toRoL (GSect.ow x)=GSect.ro x):toRoRows (GSect.ows l)=GSect.ros l:=by
 rw[GSect.ows_eq,GSect.ros_eq];exact toRo_map l h
theorem GSect.noRo_ows (l:List GSect) (h:∀ x∈l,noRoL (GSect.ow x)):noRoRows (GSect.ows l):=by
 rw[GSect.ows_eq];exact noRo_map l h
structure GTable where
 syms:List GSym
 sects:List GSect
 globs:List ByteArray
def GTable.ro (a:GTable):List AV:=[.ro 5 (GSym.ros a.syms),.ro 3 (GSect.ros a.sects),.ro 1 (GString.ros a.globs)]
def GTable.ow (a:GTable):List AV:=[.ow 5 (GSym.ows a.syms),.ow 3 (GSect.ows a.sects),.ow 1 (GString.ows a.globs)]
def GTable.ok (a:GTable):Prop:=(a.syms.length≤9223372036854775807∧∀ x∈a.syms,GSym.ok x)∧(a.sects.length≤9223372036854775807∧∀ x∈a.sects,GSect.ok x)∧(a.globs.length≤9223372036854775807∧∀ x∈a.globs,GString.ok x)
def GTable.fit (a:GTable):Prop:=(a.syms.length≤1099511627776∧∀ x∈a.syms,GSym.fit x)∧(a.sects.length≤1099511627776∧∀ x∈a.sects,GSect.fit x)∧(a.globs.length≤1099511627776∧∀ x∈a.globs,GString.fit x)
def GTable.bulk (a:GTable):Nat:=bulkS GSym.bulk a.syms+bulkS GSect.bulk a.sects+bulkS GString.bulk a.globs
theorem GTable.ok_un {a:GTable} (h:GTable.ok a):(a.syms.length≤9223372036854775807∧∀ x∈a.syms,GSym.ok x)∧(a.sects.length≤9223372036854775807∧∀ x∈a.sects,GSect.ok x)∧(a.globs.length≤9223372036854775807∧∀ x∈a.globs,GString.ok x):=h
theorem GTable.fit_un {a:GTable} (h:GTable.fit a):(a.syms.length≤1099511627776∧∀ x∈a.syms,GSym.fit x)∧(a.sects.length≤1099511627776∧∀ x∈a.sects,GSect.fit x)∧(a.globs.length≤1099511627776∧∀ x∈a.globs,GString.fit x):=h
theorem GTable.fit_mk {a:GTable} (h:(a.syms.length≤1099511627776∧∀ x∈a.syms,GSym.fit x)∧(a.sects.length≤1099511627776∧∀ x∈a.sects,GSect.fit x)∧(a.globs.length≤1099511627776∧∀ x∈a.globs,GString.fit x)):GTable.fit a:=h
theorem GTable.toRo_ow (a:GTable):toRoL (GTable.ow a)=GTable.ro a:=by
 simp only[GTable.ow,GTable.ro,toRoL,toRo,GSym.toRo_ows a.syms fun x _=>GSym.toRo_ow x,GSect.toRo_ows a.sects fun x _=>GSect.toRo_ow x,GString.toRo_ows a.globs fun x _=>GString.toRo_ow x]
theorem GTable.noRo_ow (a:GTable):noRoL (GTable.ow a):=⟨GSym.noRo_ows a.syms fun x _=>GSym.noRo_ow x,GSect.noRo_ows a.sects fun x _=>GSect.noRo_ow x,GString.noRo_ows a.globs fun x _=>GString.noRo_ow x,trivial⟩
def GTable.zero:List AV:=[.nils,.nils,.nils]
abbrev GTable.ros (l:List GTable):List (List AV):=l.map GTable.ro
abbrev GTable.ows (l:List GTable):List (List AV):=l.map GTable.ow
theorem GTable.ros_eq (l:List GTable):GTable.ros l=l.map GTable.ro:=rfl
theorem GTable.ows_eq (l:List GTable):GTable.ows l=l.map GTable.ow:=rfl
theorem GTable.toRo_ows (l:List GTable) (h:∀ x∈l,toRoL (GTable.ow x)=GTable.ro x):toRoRows (GTable.ows l)=GTable.ros l:=by
 rw[GTable.ows_eq,GTable.ros_eq];exact toRo_map l h
theorem GTable.noRo_ows (l:List GTable) (h:∀ x∈l,noRoL (GTable.ow x)):noRoRows (GTable.ows l):=by
 rw[GTable.ows_eq];exact noRo_map l h
structure GGlob where
 name:ByteArray
 e:GExpr
def GGlob.ro (a:GGlob):List AV:=[.str a.name,.int .i64 a.e.k,.int .i64 a.e.n,.str a.e.s,.ro 4 (GExpr.ros a.e.l)]
def GGlob.ow (a:GGlob):List AV:=[.str a.name,.int .i64 a.e.k,.int .i64 a.e.n,.str a.e.s,.ow 4 (GExpr.ows a.e.l)]
def GGlob.ok (a:GGlob):Prop:=a.name.size≤9223372036854775807∧GExpr.ok a.e
def GGlob.fit (a:GGlob):Prop:=GExpr.fit a.e
def GGlob.bulk (a:GGlob):Nat:=a.name.size+GExpr.bulk a.e
theorem GGlob.ok_un {a:GGlob} (h:GGlob.ok a):a.name.size≤9223372036854775807∧GExpr.ok a.e:=h
theorem GGlob.fit_un {a:GGlob} (h:GGlob.fit a):GExpr.fit a.e:=h
theorem GGlob.fit_mk {a:GGlob} (h:GExpr.fit a.e):GGlob.fit a:=h
theorem GGlob.toRo_ow (a:GGlob):toRoL (GGlob.ow a)=GGlob.ro a:=by
 simp only[GGlob.ow,GGlob.ro,toRoL,toRo,GExpr.toRo_ows a.e.l fun x _=>GExpr.toRo_ow x]
theorem GGlob.noRo_ow (a:GGlob):noRoL (GGlob.ow a):=⟨trivial,trivial,trivial,trivial,GExpr.noRo_ows a.e.l fun x _=>GExpr.noRo_ow x,trivial⟩
def GGlob.zero:List AV:=[.str ⟨#[]⟩,.int .i64 0,.int .i64 0,.str ⟨#[]⟩,.nils]
abbrev GGlob.ros (l:List GGlob):List (List AV):=l.map GGlob.ro
abbrev GGlob.ows (l:List GGlob):List (List AV):=l.map GGlob.ow
theorem GGlob.ros_eq (l:List GGlob):GGlob.ros l=l.map GGlob.ro:=rfl
theorem GGlob.ows_eq (l:List GGlob):GGlob.ows l=l.map GGlob.ow:=rfl
theorem GGlob.toRo_ows (l:List GGlob) (h:∀ x∈l,toRoL (GGlob.ow x)=GGlob.ro x):toRoRows (GGlob.ows l)=GGlob.ros l:=by
 rw[GGlob.ows_eq,GGlob.ros_eq];exact toRo_map l h
theorem GGlob.noRo_ows (l:List GGlob) (h:∀ x∈l,noRoL (GGlob.ow x)):noRoRows (GGlob.ows l):=by
 rw[GGlob.ows_eq];exact noRo_map l h
structure GObj where
 sects:List GSect
 globs:List GGlob
def GObj.ro (a:GObj):List AV:=[.ro 3 (GSect.ros a.sects),.ro 5 (GGlob.ros a.globs)]
def GObj.ow (a:GObj):List AV:=[.ow 3 (GSect.ows a.sects),.ow 5 (GGlob.ows a.globs)]
def GObj.ok (a:GObj):Prop:=(a.sects.length≤9223372036854775807∧∀ x∈a.sects,GSect.ok x)∧(a.globs.length≤9223372036854775807∧∀ x∈a.globs,GGlob.ok x)
def GObj.fit (a:GObj):Prop:=(a.sects.length≤1099511627776∧∀ x∈a.sects,GSect.fit x)∧(a.globs.length≤1099511627776∧∀ x∈a.globs,GGlob.fit x)
def GObj.bulk (a:GObj):Nat:=bulkS GSect.bulk a.sects+bulkS GGlob.bulk a.globs
theorem GObj.ok_un {a:GObj} (h:GObj.ok a):(a.sects.length≤9223372036854775807∧∀ x∈a.sects,GSect.ok x)∧(a.globs.length≤9223372036854775807∧∀ x∈a.globs,GGlob.ok x):=h
theorem GObj.fit_un {a:GObj} (h:GObj.fit a):(a.sects.length≤1099511627776∧∀ x∈a.sects,GSect.fit x)∧(a.globs.length≤1099511627776∧∀ x∈a.globs,GGlob.fit x):=h
theorem GObj.fit_mk {a:GObj} (h:(a.sects.length≤1099511627776∧∀ x∈a.sects,GSect.fit x)∧(a.globs.length≤1099511627776∧∀ x∈a.globs,GGlob.fit x)):GObj.fit a:=h
theorem GObj.toRo_ow (a:GObj):toRoL (GObj.ow a)=GObj.ro a:=by
 simp only[GObj.ow,GObj.ro,toRoL,toRo,GSect.toRo_ows a.sects fun x _=>GSect.toRo_ow x,GGlob.toRo_ows a.globs fun x _=>GGlob.toRo_ow x]
theorem GObj.noRo_ow (a:GObj):noRoL (GObj.ow a):=⟨GSect.noRo_ows a.sects fun x _=>GSect.noRo_ow x,GGlob.noRo_ows a.globs fun x _=>GGlob.noRo_ow x,trivial⟩
def GObj.zero:List AV:=[.nils,.nils]
abbrev GObj.ros (l:List GObj):List (List AV):=l.map GObj.ro
abbrev GObj.ows (l:List GObj):List (List AV):=l.map GObj.ow
theorem GObj.ros_eq (l:List GObj):GObj.ros l=l.map GObj.ro:=rfl
theorem GObj.ows_eq (l:List GObj):GObj.ows l=l.map GObj.ow:=rfl
theorem GObj.toRo_ows (l:List GObj) (h:∀ x∈l,toRoL (GObj.ow x)=GObj.ro x):toRoRows (GObj.ows l)=GObj.ros l:=by
 rw[GObj.ows_eq,GObj.ros_eq];exact toRo_map l h
theorem GObj.noRo_ows (l:List GObj) (h:∀ x∈l,noRoL (GObj.ow x)):noRoRows (GObj.ows l):=by
 rw[GObj.ows_eq];exact noRo_map l h
structure GLibMod where
 name:ByteArray
 b:List UInt8
def GLibMod.ro (a:GLibMod):List AV:=[.str a.name,.ro 1 (GByte.ros a.b)]
def GLibMod.ow (a:GLibMod):List AV:=[.str a.name,.ow 1 (GByte.ows a.b)]
def GLibMod.ok (a:GLibMod):Prop:=a.name.size≤9223372036854775807∧(a.b.length≤9223372036854775807∧∀ x∈a.b,GByte.ok x)
def GLibMod.fit (a:GLibMod):Prop:=(a.b.length≤1099511627776∧∀ x∈a.b,GByte.fit x)
def GLibMod.bulk (a:GLibMod):Nat:=a.name.size+bulkS GByte.bulk a.b
theorem GLibMod.ok_un {a:GLibMod} (h:GLibMod.ok a):a.name.size≤9223372036854775807∧(a.b.length≤9223372036854775807∧∀ x∈a.b,GByte.ok x):=h
theorem GLibMod.fit_un {a:GLibMod} (h:GLibMod.fit a):(a.b.length≤1099511627776∧∀ x∈a.b,GByte.fit x):=h
theorem GLibMod.fit_mk {a:GLibMod} (h:(a.b.length≤1099511627776∧∀ x∈a.b,GByte.fit x)):GLibMod.fit a:=h
theorem GLibMod.toRo_ow (a:GLibMod):toRoL (GLibMod.ow a)=GLibMod.ro a:=by
 simp only[GLibMod.ow,GLibMod.ro,toRoL,toRo,GByte.toRo_ows a.b fun x _=>GByte.toRo_ow x]
theorem GLibMod.noRo_ow (a:GLibMod):noRoL (GLibMod.ow a):=⟨trivial,GByte.noRo_ows a.b fun x _=>GByte.noRo_ow x,trivial⟩
def GLibMod.zero:List AV:=[.str ⟨#[]⟩,.nils]
abbrev GLibMod.ros (l:List GLibMod):List (List AV):=l.map GLibMod.ro
abbrev GLibMod.ows (l:List GLibMod):List (List AV):=l.map GLibMod.ow
theorem GLibMod.ros_eq (l:List GLibMod):GLibMod.ros l=l.map GLibMod.ro:=rfl
theorem GLibMod.ows_eq (l:List GLibMod):GLibMod.ows l=l.map GLibMod.ow:=rfl
theorem GLibMod.toRo_ows (l:List GLibMod) (h:∀ x∈l,toRoL (GLibMod.ow x)=GLibMod.ro x):toRoRows (GLibMod.ows l)=GLibMod.ros l:=by
 rw[GLibMod.ows_eq,GLibMod.ros_eq];exact toRo_map l h
theorem GLibMod.noRo_ows (l:List GLibMod) (h:∀ x∈l,noRoL (GLibMod.ow x)):noRoRows (GLibMod.ows l):=by
 rw[GLibMod.ows_eq];exact noRo_map l h
structure GLib where
 mods:List GLibMod
def GLib.ro (a:GLib):List AV:=[.ro 2 (GLibMod.ros a.mods)]
def GLib.ow (a:GLib):List AV:=[.ow 2 (GLibMod.ows a.mods)]
def GLib.ok (a:GLib):Prop:=(a.mods.length≤9223372036854775807∧∀ x∈a.mods,GLibMod.ok x)
def GLib.fit (a:GLib):Prop:=(a.mods.length≤1099511627776∧∀ x∈a.mods,GLibMod.fit x)
def GLib.bulk (a:GLib):Nat:=bulkS GLibMod.bulk a.mods
theorem GLib.ok_un {a:GLib} (h:GLib.ok a):(a.mods.length≤9223372036854775807∧∀ x∈a.mods,GLibMod.ok x):=h
theorem GLib.fit_un {a:GLib} (h:GLib.fit a):(a.mods.length≤1099511627776∧∀ x∈a.mods,GLibMod.fit x):=h
theorem GLib.fit_mk {a:GLib} (h:(a.mods.length≤1099511627776∧∀ x∈a.mods,GLibMod.fit x)):GLib.fit a:=h
theorem GLib.toRo_ow (a:GLib):toRoL (GLib.ow a)=GLib.ro a:=by
 simp only[GLib.ow,GLib.ro,toRoL,toRo,GLibMod.toRo_ows a.mods fun x _=>GLibMod.toRo_ow x]
theorem GLib.noRo_ow (a:GLib):noRoL (GLib.ow a):=⟨GLibMod.noRo_ows a.mods fun x _=>GLibMod.noRo_ow x,trivial⟩
def GLib.zero:List AV:=[.nils]
abbrev GLib.ros (l:List GLib):List (List AV):=l.map GLib.ro
abbrev GLib.ows (l:List GLib):List (List AV):=l.map GLib.ow
theorem GLib.ros_eq (l:List GLib):GLib.ros l=l.map GLib.ro:=rfl
theorem GLib.ows_eq (l:List GLib):GLib.ows l=l.map GLib.ow:=rfl
theorem GLib.toRo_ows (l:List GLib) (h:∀ x∈l,toRoL (GLib.ow x)=GLib.ro x):toRoRows (GLib.ows l)=GLib.ros l:=by
 rw[GLib.ows_eq,GLib.ros_eq];exact toRo_map l h
theorem GLib.noRo_ows (l:List GLib) (h:∀ x∈l,noRoL (GLib.ow x)):noRoRows (GLib.ows l):=by
 rw[GLib.ows_eq];exact noRo_map l h
structure GPlaced where
 mod:Int
 sect:Int
 pos:Int
def GPlaced.ro (a:GPlaced):List AV:=[.int .i64 a.mod,.int .i64 a.sect,.int .i64 a.pos]
abbrev GPlaced.ow (a:GPlaced):List AV:=GPlaced.ro a
def GPlaced.ok (a:GPlaced):Prop:=(-9223372036854775808≤a.mod∧a.mod≤9223372036854775807)∧(-9223372036854775808≤a.sect∧a.sect≤9223372036854775807)∧(-9223372036854775808≤a.pos∧a.pos≤9223372036854775807)
def GPlaced.fit (_:GPlaced):Prop:=True
def GPlaced.bulk (a:GPlaced):Nat:=0
theorem GPlaced.ok_un {a:GPlaced} (h:GPlaced.ok a):(-9223372036854775808≤a.mod∧a.mod≤9223372036854775807)∧(-9223372036854775808≤a.sect∧a.sect≤9223372036854775807)∧(-9223372036854775808≤a.pos∧a.pos≤9223372036854775807):=h
theorem GPlaced.toRo_ow (a:GPlaced):toRoL (GPlaced.ow a)=GPlaced.ro a:=rfl
theorem GPlaced.noRo_ow (a:GPlaced):noRoL (GPlaced.ow a):=⟨trivial,trivial,trivial,trivial⟩
def GPlaced.zero:List AV:=[.int .i64 0,.int .i64 0,.int .i64 0]
abbrev GPlaced.ros (l:List GPlaced):List (List AV):=l.map GPlaced.ro
abbrev GPlaced.ows (l:List GPlaced):List (List AV):=l.map GPlaced.ow
theorem GPlaced.ros_eq (l:List GPlaced):GPlaced.ros l=l.map GPlaced.ro:=rfl
theorem GPlaced.ows_eq (l:List GPlaced):GPlaced.ows l=l.map GPlaced.ow:=rfl
theorem GPlaced.toRo_ows (l:List GPlaced) (h:∀ x∈l,toRoL (GPlaced.ow x)=GPlaced.ro x):toRoRows (GPlaced.ows l)=GPlaced.ros l:=by
 rw[GPlaced.ows_eq,GPlaced.ros_eq];exact toRo_map l h
theorem GPlaced.noRo_ows (l:List GPlaced) (h:∀ x∈l,noRoL (GPlaced.ow x)):noRoRows (GPlaced.ows l):=by
 rw[GPlaced.ows_eq];exact noRo_map l h
theorem GInt.roo (l:List GInt):toRoRows (GInt.ows l)=GInt.ros l:=GInt.toRo_ows l fun x _=>GInt.toRo_ow x
theorem GInt.ror (l:List GInt):toRoRows (GInt.ros l)=GInt.ros l:=by rw[←GInt.roo,toRoRows_idem]
theorem GInt.nro (l:List GInt):noRoRows (GInt.ows l):=GInt.noRo_ows l fun x _=>GInt.noRo_ow x
theorem GByte.roo (l:List GByte):toRoRows (GByte.ows l)=GByte.ros l:=GByte.toRo_ows l fun x _=>GByte.toRo_ow x
theorem GByte.ror (l:List GByte):toRoRows (GByte.ros l)=GByte.ros l:=by rw[←GByte.roo,toRoRows_idem]
theorem GByte.nro (l:List GByte):noRoRows (GByte.ows l):=GByte.noRo_ows l fun x _=>GByte.noRo_ow x
theorem GString.roo (l:List GString):toRoRows (GString.ows l)=GString.ros l:=GString.toRo_ows l fun x _=>GString.toRo_ow x
theorem GString.ror (l:List GString):toRoRows (GString.ros l)=GString.ros l:=by rw[←GString.roo,toRoRows_idem]
theorem GString.nro (l:List GString):noRoRows (GString.ows l):=GString.noRo_ows l fun x _=>GString.noRo_ow x
theorem GOpd.roo (l:List GOpd):toRoRows (GOpd.ows l)=GOpd.ros l:=GOpd.toRo_ows l fun x _=>GOpd.toRo_ow x
theorem GOpd.ror (l:List GOpd):toRoRows (GOpd.ros l)=GOpd.ros l:=by rw[←GOpd.roo,toRoRows_idem]
theorem GOpd.nro (l:List GOpd):noRoRows (GOpd.ows l):=GOpd.noRo_ows l fun x _=>GOpd.noRo_ow x
theorem GIns.roo (l:List GIns):toRoRows (GIns.ows l)=GIns.ros l:=GIns.toRo_ows l fun x _=>GIns.toRo_ow x
theorem GIns.ror (l:List GIns):toRoRows (GIns.ros l)=GIns.ros l:=by rw[←GIns.roo,toRoRows_idem]
theorem GIns.nro (l:List GIns):noRoRows (GIns.ows l):=GIns.noRo_ows l fun x _=>GIns.noRo_ow x
theorem GMach.roo (l:List GMach):toRoRows (GMach.ows l)=GMach.ros l:=GMach.toRo_ows l fun x _=>GMach.toRo_ow x
theorem GMach.ror (l:List GMach):toRoRows (GMach.ros l)=GMach.ros l:=by rw[←GMach.roo,toRoRows_idem]
theorem GMach.nro (l:List GMach):noRoRows (GMach.ows l):=GMach.noRo_ows l fun x _=>GMach.noRo_ow x
theorem GPlace.roo (l:List GPlace):toRoRows (GPlace.ows l)=GPlace.ros l:=GPlace.toRo_ows l fun x _=>GPlace.toRo_ow x
theorem GPlace.ror (l:List GPlace):toRoRows (GPlace.ros l)=GPlace.ros l:=by rw[←GPlace.roo,toRoRows_idem]
theorem GPlace.nro (l:List GPlace):noRoRows (GPlace.ows l):=GPlace.noRo_ows l fun x _=>GPlace.noRo_ow x
theorem GToken.roo (l:List GToken):toRoRows (GToken.ows l)=GToken.ros l:=GToken.toRo_ows l fun x _=>GToken.toRo_ow x
theorem GToken.ror (l:List GToken):toRoRows (GToken.ros l)=GToken.ros l:=by rw[←GToken.roo,toRoRows_idem]
theorem GToken.nro (l:List GToken):noRoRows (GToken.ows l):=GToken.noRo_ows l fun x _=>GToken.noRo_ow x
theorem GExpr.roo (l:List GExpr):toRoRows (GExpr.ows l)=GExpr.ros l:=GExpr.toRo_ows l fun x _=>GExpr.toRo_ow x
theorem GExpr.ror (l:List GExpr):toRoRows (GExpr.ros l)=GExpr.ros l:=by rw[←GExpr.roo,toRoRows_idem]
theorem GExpr.nro (l:List GExpr):noRoRows (GExpr.ows l):=GExpr.noRo_ows l fun x _=>GExpr.noRo_ow x
theorem GArg.roo (l:List GArg):toRoRows (GArg.ows l)=GArg.ros l:=GArg.toRo_ows l fun x _=>GArg.toRo_ow x
theorem GArg.ror (l:List GArg):toRoRows (GArg.ros l)=GArg.ros l:=by rw[←GArg.roo,toRoRows_idem]
theorem GArg.nro (l:List GArg):noRoRows (GArg.ows l):=GArg.noRo_ows l fun x _=>GArg.noRo_ow x
theorem GLine.roo (l:List GLine):toRoRows (GLine.ows l)=GLine.ros l:=GLine.toRo_ows l fun x _=>GLine.toRo_ow x
theorem GLine.ror (l:List GLine):toRoRows (GLine.ros l)=GLine.ros l:=by rw[←GLine.roo,toRoRows_idem]
theorem GLine.nro (l:List GLine):noRoRows (GLine.ows l):=GLine.noRo_ows l fun x _=>GLine.noRo_ow x
theorem GSym.roo (l:List GSym):toRoRows (GSym.ows l)=GSym.ros l:=GSym.toRo_ows l fun x _=>GSym.toRo_ow x
theorem GSym.ror (l:List GSym):toRoRows (GSym.ros l)=GSym.ros l:=by rw[←GSym.roo,toRoRows_idem]
theorem GSym.nro (l:List GSym):noRoRows (GSym.ows l):=GSym.noRo_ows l fun x _=>GSym.noRo_ow x
theorem GSect.roo (l:List GSect):toRoRows (GSect.ows l)=GSect.ros l:=GSect.toRo_ows l fun x _=>GSect.toRo_ow x
theorem GSect.ror (l:List GSect):toRoRows (GSect.ros l)=GSect.ros l:=by rw[←GSect.roo,toRoRows_idem]
theorem GSect.nro (l:List GSect):noRoRows (GSect.ows l):=GSect.noRo_ows l fun x _=>GSect.noRo_ow x
theorem GTable.roo (l:List GTable):toRoRows (GTable.ows l)=GTable.ros l:=GTable.toRo_ows l fun x _=>GTable.toRo_ow x
theorem GTable.ror (l:List GTable):toRoRows (GTable.ros l)=GTable.ros l:=by rw[←GTable.roo,toRoRows_idem]
theorem GTable.nro (l:List GTable):noRoRows (GTable.ows l):=GTable.noRo_ows l fun x _=>GTable.noRo_ow x
theorem GGlob.roo (l:List GGlob):toRoRows (GGlob.ows l)=GGlob.ros l:=GGlob.toRo_ows l fun x _=>GGlob.toRo_ow x
theorem GGlob.ror (l:List GGlob):toRoRows (GGlob.ros l)=GGlob.ros l:=by rw[←GGlob.roo,toRoRows_idem]
theorem GGlob.nro (l:List GGlob):noRoRows (GGlob.ows l):=GGlob.noRo_ows l fun x _=>GGlob.noRo_ow x
theorem GObj.roo (l:List GObj):toRoRows (GObj.ows l)=GObj.ros l:=GObj.toRo_ows l fun x _=>GObj.toRo_ow x
theorem GObj.ror (l:List GObj):toRoRows (GObj.ros l)=GObj.ros l:=by rw[←GObj.roo,toRoRows_idem]
theorem GObj.nro (l:List GObj):noRoRows (GObj.ows l):=GObj.noRo_ows l fun x _=>GObj.noRo_ow x
theorem GLibMod.roo (l:List GLibMod):toRoRows (GLibMod.ows l)=GLibMod.ros l:=GLibMod.toRo_ows l fun x _=>GLibMod.toRo_ow x
theorem GLibMod.ror (l:List GLibMod):toRoRows (GLibMod.ros l)=GLibMod.ros l:=by rw[←GLibMod.roo,toRoRows_idem]
theorem GLibMod.nro (l:List GLibMod):noRoRows (GLibMod.ows l):=GLibMod.noRo_ows l fun x _=>GLibMod.noRo_ow x
theorem GLib.roo (l:List GLib):toRoRows (GLib.ows l)=GLib.ros l:=GLib.toRo_ows l fun x _=>GLib.toRo_ow x
theorem GLib.ror (l:List GLib):toRoRows (GLib.ros l)=GLib.ros l:=by rw[←GLib.roo,toRoRows_idem]
theorem GLib.nro (l:List GLib):noRoRows (GLib.ows l):=GLib.noRo_ows l fun x _=>GLib.noRo_ow x
theorem GPlaced.roo (l:List GPlaced):toRoRows (GPlaced.ows l)=GPlaced.ros l:=GPlaced.toRo_ows l fun x _=>GPlaced.toRo_ow x
theorem GPlaced.ror (l:List GPlaced):toRoRows (GPlaced.ros l)=GPlaced.ros l:=by rw[←GPlaced.roo,toRoRows_idem]
theorem GPlaced.nro (l:List GPlaced):noRoRows (GPlaced.ows l):=GPlaced.noRo_ows l fun x _=>GPlaced.noRo_ow x
theorem GTokenS.roo (l:List GTokenS):toRoRows (GTokenS.ows l)=GTokenS.ros l:=GTokenS.toRo_ows l fun x _=>GTokenS.toRo_ow x
theorem GTokenS.ror (l:List GTokenS):toRoRows (GTokenS.ros l)=GTokenS.ros l:=by rw[←GTokenS.roo,toRoRows_idem]
theorem GTokenS.nro (l:List GTokenS):noRoRows (GTokenS.ows l):=GTokenS.noRo_ows l fun x _=>GTokenS.noRo_ow x
end Go.Proofs.VI
