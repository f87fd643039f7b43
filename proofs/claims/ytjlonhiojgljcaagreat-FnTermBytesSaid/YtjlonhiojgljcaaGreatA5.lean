/- Contracts of functions, and what they rest on: l17get. -/
import Derived.Test.YtjlonhiojgljcaaGreatA1
import Derived.Test.YtjlonhiojgljcaaGreatA2
set_option linter.unusedVariables false
set_option linter.unusedSimpArgs false
set_option maxRecDepth 10000
set_option maxHeartbeats 4000000
namespace Go.Proofs.VI
open Go
theorem or_bytes (lo hi:UInt8):bitsI .or .i64 (lo.toNat:Int) (shlI .i64 (hi.toNat:Int) 8)=(lo.toNat:Int)+256*hi.toNat:=by
 have h1:=UInt8.toNat_lt lo
 have h2:=UInt8.toNat_lt hi
 have e1:shlI .i64 (hi.toNat:Int) 8=((hi.toNat*256:Nat):Int):=by
  show IntKind.wrap .i64 ((hi.toNat:Int)*2 ^ 8)=_
  rw[w64 (by omega) (by omega)];omega
 rw[e1]
 show IntKind.wrap .i64 ((BitVec.ofInt 64 ((lo.toNat:Nat):Int)||| BitVec.ofInt 64 ((hi.toNat*256:Nat):Int)).toNat:Int)=_
 have e2:∀ n:Nat,n < 2 ^ 64→(BitVec.ofInt 64 (n:Int)).toNat=n:=fun n hn=>by
  rw[BitVec.toNat_ofInt]
  have:((n:Int) % ((2 ^ 64:Nat):Int))=(n:Int):=Int.emod_eq_of_lt (by omega) (by exact_mod_cast hn)
  rw[this];rfl
 rw[BitVec.toNat_or,e2 _ (by omega),e2 _ (by omega)]
 have e3:lo.toNat||| (hi.toNat*256)=hi.toNat*256+lo.toNat:=by
  rw[Nat.or_comm,show hi.toNat*256=hi.toNat <<< 8 by rw[Nat.shiftLeft_eq]]
  exact (Nat.shiftLeft_add_eq_or_of_lt (by omega) _).symm
 rw[e3,w64 (by omega) (by omega)];omega
def getW (b:List UInt8) (p:Int):Option (Int×Int):=
 if 0≤p∧p≤(b.length:Int) - 2 then some (((b.getD p.toNat 0).toNat:Int)+256*(b.getD (p.toNat+1) 0).toNat,p+2) else none
theorem getW_some {b:List UInt8} {p:Int} (h0:0≤p) (h1:p≤(b.length:Int) - 2):∃ (h2:p.toNat < b.length) (h3:p.toNat+1 < b.length),getW b p=some ((b[p.toNat].toNat:Int)+256*b[p.toNat+1].toNat,p+2):=by
 refine ⟨by omega,by omega,?_⟩
 rw[getW,if_pos ⟨h0,h1⟩,List.getD_eq_getElem?_getD,List.getD_eq_getElem?_getD,List.getElem?_eq_getElem (by omega),List.getElem?_eq_getElem (by omega)];rfl
theorem getW_none {b:List UInt8} {p:Int} (h:¬ (0≤p∧p≤(b.length:Int) - 2)):getW b p=none:=by rw[getW,if_neg h]
theorem getW_in {b:List UInt8} {p n q:Int} (h:getW b p=some (n,q)):0≤n∧n≤65535∧q=p+2∧0≤p∧q≤b.length:=by
 rw[getW] at h
 split at h
 ·rename_i hp
  injection h with h;injection h with h1 h2
  have:=UInt8.toNat_lt (b.getD p.toNat 0)
  have:=UInt8.toNat_lt (b.getD (p.toNat+1) 0)
  omega
 ·cases h
def gW (x:Option (Int×Int)):AV:=match x with | some (n,q)=> .tup [.int .i64 n,.int .i64 q,.bool true] | none=> .tup [.int .i64 0,.int .i64 0,.bool false]
theorem byte_row {b:List UInt8} {i:Nat} (h:i < b.length):(GByte.ros b)[i]?=some (GByte.ro b[i]):=map_get _ _ h
theorem impl_GetW (b:List UInt8) (p:Int) (hb:b.length≤1099511627776):Con 189 [.ro 1 (GByte.ros b),.int .i64 p] (gW (getW b p)) [none,none]:=by
 refine con Tryz.func189 ?_
 have hlen:(GByte.ros b).length=b.length:=by simp
 have e1:IntKind.wrap .i64 (((GByte.ros b).length:Int) - 2)=(b.length:Int) - 2:=by rw[hlen];exact w64 (by omega) (by omega)
 by_cases h:0≤p∧p≤(b.length:Int) - 2
 ·obtain ⟨h2,h3,h4⟩:=getW_some h.1 h.2
  have e2:IntKind.wrap .i64 (p+1)=p+1:=w64 (by omega) (by omega)
  have e3:IntKind.wrap .i64 (p+2)=p+2:=w64 (by omega) (by omega)
  have r1:=byte_row h2
  have r2:(GByte.ros b)[(IntKind.wrap .i64 (p+1)).toNat]?=some (GByte.ro b[p.toNat+1]):=by
   rw[e2,show (p+1).toNat=p.toNat+1 by omega];exact byte_row h3
  have p2:0≤IntKind.wrap .i64 (p+1):=by omega
  have e4:∀ x:UInt8,IntKind.wrap .i64 (x.toNat:Int)=x.toNat:=fun x=>w64 (by omega) (by have:=UInt8.toNat_lt x;omega)
  rw[h4]
  obtain ⟨h0,h1⟩:=h
  repeat' (first | refine And.intro (fun (h:_=true)=>?_) (fun (h:_=false)=>?_) | refine And.intro (fun (h:_=false)=>?_) (fun (h:_=true)=>?_) | refine And.intro (show regOk _ _=true from by kernel_rfl) ?_ | refine And.intro (Sim.nb ?_) trivial | refine ⟨h0,_,r1,?_⟩ | refine ⟨p2,_,r2,?_⟩ | refine And.intro (show (0:Int)≤8 from by decide) ?_ | fail)
  all_goals clear r1 r2 h4
  all_goals first | (exfalso;simp only[decide_eq_true_eq,decide_eq_false_iff_not,Bool.not_eq_true',Bool.not_eq_false',hlen] at*;omega) | simp only[nb,nbAs,nbA,nbC,tuple,gW,e3,e4,or_bytes]
 ·rw[getW_none h]
  repeat' (first | refine And.intro (fun (h:_=true)=>?_) (fun (h:_=false)=>?_) | refine And.intro (fun (h:_=false)=>?_) (fun (h:_=true)=>?_) | refine And.intro (show regOk _ _=true from by kernel_rfl) ?_ | refine And.intro (Sim.nb ?_) trivial | fail)
  all_goals first | (exfalso;simp only[decide_eq_true_eq,decide_eq_false_iff_not,Bool.not_eq_true',Bool.not_eq_false',hlen] at*;omega) | rfl
theorem spec_GetW (b:List UInt8) (p:Int) (hb:b.length≤1099511627776) (hp: -9223372036854775808≤p∧p≤9223372036854775807):Con 131 [.ro 1 (GByte.ros b),.int .i64 p] (gW (getW b p)) [none,none]:=by
 refine con Tryz.func131 ?_
 have hlen:(GByte.ros b).length=b.length:=by simp
 by_cases h:0≤p∧p≤(b.length:Int) - 2
 ·obtain ⟨h2,h3,h4⟩:=getW_some h.1 h.2
  have e2:IntKind.wrap .i64 (p+1)=p+1:=w64 (by omega) (by omega)
  have e3:IntKind.wrap .i64 (p+2)=p+2:=w64 (by omega) (by omega)
  have r1:=byte_row h2
  have r2:(GByte.ros b)[(IntKind.wrap .i64 (p+1)).toNat]?=some (GByte.ro b[p.toNat+1]):=by
   rw[e2,show (p+1).toNat=p.toNat+1 by omega];exact byte_row h3
  have p2:0≤IntKind.wrap .i64 (p+1):=by omega
  have e4:∀ x:UInt8,IntKind.wrap .i64 (x.toNat:Int)=x.toNat:=fun x=>w64 (by omega) (by have:=UInt8.toNat_lt x;omega)
  rw[h4]
  obtain ⟨h0,h1⟩:=h
  repeat' (first | refine And.intro (fun (h:_=true)=>?_) (fun (h:_=false)=>?_) | refine And.intro (fun (h:_=false)=>?_) (fun (h:_=true)=>?_) | refine And.intro (show regOk _ _=true from by kernel_rfl) ?_ | refine And.intro (Sim.nb ?_) trivial | refine ⟨h0,_,r1,?_⟩ | refine ⟨p2,_,r2,?_⟩ | refine And.intro (show (0:Int)≤8 from by decide) ?_ | fail)
  all_goals clear r1 r2 h4
  all_goals first | (exfalso;simp only[decide_eq_true_eq,decide_eq_false_iff_not,Bool.not_eq_true',Bool.not_eq_false',hlen] at*;omega) | simp only[nb,nbAs,nbA,nbC,tuple,gW,e3,e4,or_bytes]
 ·rw[getW_none h]
  by_cases hq:p=9223372036854775807
  ·subst hq
   repeat' (first | refine And.intro (fun (h:_=true)=>?_) (fun (h:_=false)=>?_) | refine And.intro (fun (h:_=false)=>?_) (fun (h:_=true)=>?_) | refine And.intro (show regOk _ _=true from by kernel_rfl) ?_ | refine And.intro (Sim.nb ?_) trivial | fail)
   all_goals first | (exfalso;simp only[decide_eq_true_eq,decide_eq_false_iff_not,Bool.not_eq_true',Bool.not_eq_false',hlen] at*;omega) | rfl
  ·have e2:IntKind.wrap .i64 (p+1)=p+1:=w64 (by omega) (by omega)
   repeat' (first | refine And.intro (fun (h:_=true)=>?_) (fun (h:_=false)=>?_) | refine And.intro (fun (h:_=false)=>?_) (fun (h:_=true)=>?_) | refine And.intro (show regOk _ _=true from by kernel_rfl) ?_ | refine And.intro (Sim.nb ?_) trivial | fail)
   all_goals first | (exfalso;simp only[decide_eq_true_eq,decide_eq_false_iff_not,Bool.not_eq_true',Bool.not_eq_false',hlen] at*;omega) | rfl
theorem rowsStr_ros (l:List UInt8):rowsStr (GByte.ros l)=bytes l:=by
 show (⟨((l.map GByte.ro).map u8Of).toArray⟩:ByteArray)=⟨l.toArray⟩
 rw[List.map_map]
 have:(u8Of ∘ GByte.ro)=id:=by
  funext x
  show (Int.toNat ((x.toNat:Nat):Int)).toUInt8=x
  simp
 rw[this,List.map_id]
theorem isBytes_ros (l:List UInt8):isBytes (GByte.ros l):=fun r hr=>by
 obtain ⟨x,_,rfl⟩:=List.mem_map.1 hr
 exact ⟨_,rfl,by omega,by have:=UInt8.toNat_lt x;omega⟩
theorem ros_sub (b:List UInt8) (i n:Nat):((GByte.ros b).drop i).take n=GByte.ros ((b.drop i).take n):=by
 simp only[GByte.ros_eq,List.map_take,List.map_drop]
def getT (b:List UInt8) (p:Int):Option (ByteArray×Int):=match getW b p with
 | some (n,q)=>if n≤1000∧n≤(b.length:Int) - q then some (bytes ((b.drop q.toNat).take n.toNat),q+n) else none
 | none=>none
def gT (x:Option (ByteArray×Int)):AV:=match x with | some (s,q)=> .tup [.str s,.int .i64 q,.bool true] | none=> .tup [.str ⟨#[]⟩,.int .i64 0,.bool false]
theorem getT_in {b:List UInt8} {p q:Int} {s:ByteArray} (h:getT b p=some (s,q)):s.size≤1000∧0≤p∧q≤b.length∧q=p+2+s.size:=by
 rw[getT] at h
 split at h
 ·rename_i n q2 hw
  have:=getW_in hw
  split at h
  ·injection h with h;injection h with h1 h2
   subst h1
   rw[bytes_size]
   simp only[List.length_take,List.length_drop]
   omega
  ·cases h
 ·cases h
theorem impl_GetText (b:List UInt8) (p:Int) (hb:b.length≤1099511627776):Con 242 [.ro 1 (GByte.ros b),.int .i64 p] (gT (getT b p)) [none,none]:=by
 refine con Tryz.func242 ?_
 have hlen:(GByte.ros b).length=b.length:=by simp
 have c:=impl_GetW b p hb
 rw[getT]
 rcases hw:getW b p with _ | ⟨n,q⟩
 ·rw[hw] at c
  repeat' (first | refine And.intro (fun (h:_=true)=>?_) (fun (h:_=false)=>?_) | refine And.intro (fun (h:_=false)=>?_) (fun (h:_=true)=>?_) | refine And.intro (show regOk _ _=true from by kernel_rfl) ?_ | refine And.intro (Sim.nb ?_) trivial | refine ⟨[.ro,.ro],.tup [.int .i64 _,.int .i64 _,.ff],[none,none],.nbr rfl c,trivial,?_⟩ | fail)
  all_goals rfl
 ·rw[hw] at c
  have hin:=getW_in hw
  have e1:IntKind.wrap .i64 (((GByte.ros b).length:Int) - q)=(b.length:Int) - q:=by rw[hlen];exact w64 (by omega) (by omega)
  by_cases hn:n≤1000∧n≤(b.length:Int) - q
  ·have e2:IntKind.wrap .i64 (q+n)=q+n:=w64 (by omega) (by omega)
   have s1:0≤q∧q≤IntKind.wrap .i64 (q+n)∧IntKind.wrap .i64 (q+n)≤((GByte.ros b).length:Int):=by rw[hlen];omega
   have s2:((GByte.ros b).drop q.toNat).take ((IntKind.wrap .i64 (q+n)).toNat - q.toNat)=GByte.ros ((b.drop q.toNat).take n.toNat):=by
    rw[ros_sub,e2,show (q+n).toNat - q.toNat=n.toNat by omega]
   simp only[if_pos hn]
   repeat' (first | refine And.intro (fun (h:_=true)=>?_) (fun (h:_=false)=>?_) | refine And.intro (fun (h:_=false)=>?_) (fun (h:_=true)=>?_) | refine And.intro (show regOk _ _=true from by kernel_rfl) ?_ | refine And.intro (Sim.nb ?_) trivial | refine ⟨[.ro,.ro],.tup [.int .i64 _,.int .i64 _,.tt],[none,none],.nbr rfl c,trivial,?_⟩ | refine ⟨s1.1,s1.2.1,s1.2.2,rfl,(by rw[s2];exact isBytes_ros _),?_⟩ | fail)
   all_goals first | (exfalso;simp only[decide_eq_true_eq,decide_eq_false_iff_not,Bool.not_eq_true',Bool.not_eq_false',hlen] at*;omega) | (rw[s2,e2,rowsStr_ros];rfl)
  ·simp only[if_neg hn]
   repeat' (first | refine And.intro (fun (h:_=true)=>?_) (fun (h:_=false)=>?_) | refine And.intro (fun (h:_=false)=>?_) (fun (h:_=true)=>?_) | refine And.intro (show regOk _ _=true from by kernel_rfl) ?_ | refine And.intro (Sim.nb ?_) trivial | refine ⟨[.ro,.ro],.tup [.int .i64 _,.int .i64 _,.tt],[none,none],.nbr rfl c,trivial,?_⟩ | fail)
   all_goals first | rfl | (exfalso;simp only[decide_eq_true_eq,decide_eq_false_iff_not,Bool.not_eq_true',Bool.not_eq_false',hlen] at*;omega)
theorem spec_GetText (b:List UInt8) (p:Int) (hb:b.length≤1099511627776) (hp: -9223372036854775808≤p∧p≤9223372036854775807):Con 191 [.ro 1 (GByte.ros b),.int .i64 p] (gT (getT b p)) [none,none]:=by
 refine con Tryz.func191 ?_
 have hlen:(GByte.ros b).length=b.length:=by simp
 have c:=spec_GetW b p hb hp
 rw[getT]
 rcases hw:getW b p with _ | ⟨n,q⟩
 ·rw[hw] at c
  repeat' (first | refine And.intro (fun (h:_=true)=>?_) (fun (h:_=false)=>?_) | refine And.intro (fun (h:_=false)=>?_) (fun (h:_=true)=>?_) | refine And.intro (show regOk _ _=true from by kernel_rfl) ?_ | refine And.intro (Sim.nb ?_) trivial | refine ⟨[.ro,.ro],.tup [.int .i64 _,.int .i64 _,.ff],[none,none],.nbr rfl c,trivial,?_⟩ | fail)
  all_goals rfl
 ·rw[hw] at c
  have hin:=getW_in hw
  have e1:IntKind.wrap .i64 (((GByte.ros b).length:Int) - q)=(b.length:Int) - q:=by rw[hlen];exact w64 (by omega) (by omega)
  by_cases hn:n≤1000∧n≤(b.length:Int) - q
  ·have e2:IntKind.wrap .i64 (q+n)=q+n:=w64 (by omega) (by omega)
   have s1:0≤q∧q≤IntKind.wrap .i64 (q+n)∧IntKind.wrap .i64 (q+n)≤((GByte.ros b).length:Int):=by rw[hlen];omega
   have s2:((GByte.ros b).drop q.toNat).take ((IntKind.wrap .i64 (q+n)).toNat - q.toNat)=GByte.ros ((b.drop q.toNat).take n.toNat):=by
    rw[ros_sub,e2,show (q+n).toNat - q.toNat=n.toNat by omega]
   simp only[if_pos hn]
   repeat' (first | refine And.intro (fun (h:_=true)=>?_) (fun (h:_=false)=>?_) | refine And.intro (fun (h:_=false)=>?_) (fun (h:_=true)=>?_) | refine And.intro (show regOk _ _=true from by kernel_rfl) ?_ | refine And.intro (Sim.nb ?_) trivial | refine ⟨[.ro,.ro],.tup [.int .i64 _,.int .i64 _,.tt],[none,none],.nbr rfl c,trivial,?_⟩ | refine ⟨s1.1,s1.2.1,s1.2.2,rfl,(by rw[s2];exact isBytes_ros _),?_⟩ | fail)
   all_goals first | (exfalso;simp only[decide_eq_true_eq,decide_eq_false_iff_not,Bool.not_eq_true',Bool.not_eq_false',hlen] at*;omega) | (rw[s2,e2,rowsStr_ros];rfl)
  ·simp only[if_neg hn]
   repeat' (first | refine And.intro (fun (h:_=true)=>?_) (fun (h:_=false)=>?_) | refine And.intro (fun (h:_=false)=>?_) (fun (h:_=true)=>?_) | refine And.intro (show regOk _ _=true from by kernel_rfl) ?_ | refine And.intro (Sim.nb ?_) trivial | refine ⟨[.ro,.ro],.tup [.int .i64 _,.int .i64 _,.tt],[none,none],.nbr rfl c,trivial,?_⟩ | fail)
   all_goals first | rfl | (exfalso;simp only[decide_eq_true_eq,decide_eq_false_iff_not,Bool.not_eq_true',Bool.not_eq_false',hlen] at*;omega)
end Go.Proofs.VI
