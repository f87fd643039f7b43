/- Contracts of functions, and what they rest on: l01draw. -/
import Derived.Test.YtjlonhiojgljcaaGreatF3
set_option linter.unusedVariables false
set_option linter.unusedSimpArgs false
set_option maxRecDepth 10000
set_option maxHeartbeats 4000000
namespace Go.Proofs.VI
open Go
def hNext (h:Int):Int:=IntKind.wrap .i64 (IntKind.wrap .i64 (h*6364136223846793005)+1442695040888963407)
def cRow (b:List UInt8) (i:Nat) (h:Int):List AV:=[.ro 1 (GByte.ros b),.int .i64 i,.int .i64 h]
theorem cRow_mk {b:List UInt8} {i' h h':Int} {j:Nat} (e:i'=(j:Int)) (e2:h=h'):AV.pb [.ro 1 (GByte.ros b),.int .i64 i',.int .i64 h]=AV.pb (cRow b j h'):=by subst e;subst e2;rfl
theorem spec_l1Byte (b:List UInt8) (hb:b.length≤1099511627776) (i:Nat) (h:Int) (hi:i≤b.length):∃ (x:Int) (j:Nat) (h':Int),(0≤x∧x≤255)∧j≤b.length∧Con 239 [.pb (cRow b i h)] (.int .i64 x) [some (.pb (cRow b j h'))]:=by
 have lb:(GByte.ros b).length=b.length:=by simp
 have hm:∀ z:Int,0≤bitsI .and .i64 z 255∧bitsI .and .i64 z 255≤255:=fun z=>by rw[and_255];omega
 rcases Nat.lt_or_ge i b.length with g | g
 ·have e0:decide ((i:Int) < ((GByte.ros b).length:Int))=true:=decide_eq_true (by rw[lb];omega)
  have hr:(GByte.ros b)[i]?=some (GByte.ro b[i]):=map_get _ _ g
  have e1:IntKind.wrap .i64 ((i:Int)+1)=((i+1:Nat):Int):=w64 (by omega) (by omega)
  refine ⟨bitsI .and .i64 ?z 255,i+1,hNext h,hm _,g,?c⟩
  case c=>
  refine con Tryz.func239 ?_
  repeat' (first | (exfalso;rw[e0] at h;cases h;done) | refine And.intro (fun (h:_=true)=>?_) (fun (h:_=false)=>?_) | refine And.intro (fun (h:_=false)=>?_) (fun (h:_=true)=>?_) | refine And.intro (show regOk _ _=true from by kernel_rfl) ?_ | refine And.intro (Sim.of_eq (congrArg (AV.int .i64) ?_)) (And.intro (Sim.of_eq ?_) trivial) | refine And.intro (show (0:Int)≤33 from by decide) ?_ | refine And.intro (show (0:Int)≤47 from by decide) ?_ | refine ⟨Int.natCast_nonneg _,_,hr,?_⟩ | fail)
  ·with_reducible rfl
  ·exact cRow_mk e1 rfl
 ·have e0:decide ((i:Int) < ((GByte.ros b).length:Int))=false:=decide_eq_false (by rw[lb];omega)
  refine ⟨bitsI .and .i64 ?z2 255,i,hNext h,hm _,hi,?c⟩
  case c=>
  refine con Tryz.func239 ?_
  repeat' (first | (exfalso;rw[e0] at h;cases h;done) | refine And.intro (fun (h:_=true)=>?_) (fun (h:_=false)=>?_) | refine And.intro (fun (h:_=false)=>?_) (fun (h:_=true)=>?_) | refine And.intro (show regOk _ _=true from by kernel_rfl) ?_ | refine And.intro (Sim.of_eq (congrArg (AV.int .i64) ?_)) (And.intro (Sim.of_eq ?_) trivial) | refine And.intro (show (0:Int)≤33 from by decide) ?_ | refine And.intro (show (0:Int)≤47 from by decide) ?_ | fail)
  ·with_reducible rfl
  ·exact cRow_mk rfl rfl
theorem tmod_in {n:Int} (hn:0 < n) (z:Int) (hz:0≤z):0≤z.tmod n∧z.tmod n < n:=⟨Int.tmod_nonneg _ hz,Int.tmod_lt_of_pos _ hn⟩
theorem spec_l1Below (b:List UInt8) (hb:b.length≤1099511627776) (i:Nat) (h:Int) (hi:i≤b.length) (n:Int) (hn:0 < n):∃ (x:Int) (j:Nat) (h':Int),(0≤x∧x < n)∧j≤b.length∧Con 173 [.pb (cRow b i h),.int .i64 n] (.int .i64 x) [some (.pb (cRow b j h')),none]:=by
 obtain ⟨x1,j1,h1,hx1,hj1,c1⟩:=spec_l1Byte b hb i h hi
 obtain ⟨x2,j2,h2,hx2,hj2,c2⟩:=spec_l1Byte b hb j1 h1 hj1
 obtain ⟨x3,j3,h3,hx3,hj3,c3⟩:=spec_l1Byte b hb j2 h2 hj2
 have n0:n≠0:=by omega
 have e0:decide (n≤0)=false:=decide_eq_false (by omega)
 by_cases hn2:n≤256
 ·have e1:decide (n≤256)=true:=decide_eq_true hn2
  refine ⟨x1.tmod n,j1,h1,tmod_in hn _ hx1.1,hj1,?_⟩
  refine con Tryz.func173 ?_
  repeat' (first | (exfalso;(first | rw[e0] at h | rw[e1] at h);cases h;done) | refine And.intro (fun (h:_=true)=>?_) (fun (h:_=false)=>?_) | refine And.intro (fun (h:_=false)=>?_) (fun (h:_=true)=>?_) | refine And.intro (show regOk _ _=true from by kernel_rfl) ?_ | refine ⟨[.mut],.int .i64 x1,[some (.pb (cRow b j1 h1))],c1,trivial,?_⟩ | refine And.intro n0 ?_ | refine And.intro (Sim.of_eq (congrArg (AV.int .i64) ?_)) (And.intro (Sim.of_eq ?_) trivial) | fail)
  ·rfl
  ·rfl
 ·have e1:decide (n≤256)=false:=decide_eq_false hn2
  have g1:IntKind.wrap .i64 (x1*65536)=x1*65536:=w64 (by omega) (by omega)
  have g2:IntKind.wrap .i64 (x2*256)=x2*256:=w64 (by omega) (by omega)
  have g3:IntKind.wrap .i64 (x1*65536+x2*256)=x1*65536+x2*256:=w64 (by omega) (by omega)
  have g4:IntKind.wrap .i64 (x1*65536+x2*256+x3)=x1*65536+x2*256+x3:=w64 (by omega) (by omega)
  refine ⟨(x1*65536+x2*256+x3).tmod n,j3,h3,tmod_in hn _ (by omega),hj3,?_⟩
  refine con Tryz.func173 ?_
  repeat' (first | (exfalso;(first | rw[e0] at h | rw[e1] at h);cases h;done) | refine And.intro (fun (h:_=true)=>?_) (fun (h:_=false)=>?_) | refine And.intro (fun (h:_=false)=>?_) (fun (h:_=true)=>?_) | refine And.intro (show regOk _ _=true from by kernel_rfl) ?_ | refine ⟨[.mut],.int .i64 x1,[some (.pb (cRow b j1 h1))],c1,trivial,?_⟩ | refine ⟨[.mut],.int .i64 x2,[some (.pb (cRow b j2 h2))],c2,trivial,?_⟩ | refine ⟨[.mut],.int .i64 x3,[some (.pb (cRow b j3 h3))],c3,trivial,?_⟩ | refine And.intro n0 ?_ | refine And.intro (Sim.of_eq (congrArg (AV.int .i64) ?_)) (And.intro (Sim.of_eq ?_) trivial) | fail)
  ·rw[g1,g2,g3,g4]
  ·rfl
theorem spec_l1Once (b:List UInt8) (hb:b.length≤1099511627776) (i:Nat) (h:Int) (hi:i≤b.length) (n:Int) (hn:0 < n):∃ (x:Bool) (j:Nat) (h':Int),j≤b.length∧Con 119 [.pb (cRow b i h),.int .i64 n] (.bool x) [some (.pb (cRow b j h')),none]:=by
 obtain ⟨x,j,h',hx,hj,c⟩:=spec_l1Below b hb i h hi n hn
 refine ⟨decide (x=0),j,h',hj,?_⟩
 refine con Tryz.func119 ?_
 exact ⟨[.mut,.ro],.int .i64 x,[some (.pb (cRow b j h')),none],c,trivial,.refl _,.refl _,trivial⟩
theorem spec_l1Int (b:List UInt8) (hb:b.length≤1099511627776) (i:Nat) (h:Int) (hi:i≤b.length) (l:List Int) (hl:l≠ []) (h40:l.length≤1099511627776):∃ (x:Int) (j:Nat) (h':Int),x∈l∧j≤b.length∧Con 172 [.pb (cRow b i h),.ro 1 (GInt.ros l)] (.int .i64 x) [some (.pb (cRow b j h')),none]:=by
 have h0:0 < l.length:=List.length_pos_iff.2 hl
 have ll:(GInt.ros l).length=l.length:=by simp
 obtain ⟨x,j,h',hx,hj,c⟩:=spec_l1Below b hb i h hi l.length (by omega)
 have hlt:x.toNat < l.length:=by omega
 have hr:(GInt.ros l)[x.toNat]?=some (GInt.ro l[x.toNat]):=map_get _ _ hlt
 rw[←ll] at c
 refine ⟨l[x.toNat],j,h',List.getElem_mem _,hj,?_⟩
 refine con Tryz.func172 ?_
 exact ⟨[.mut,.ro],.int .i64 x,[some (.pb (cRow b j h')),none],c,trivial,hx.1,_,hr,.refl _,.refl _,trivial⟩
theorem spec_l1Str (b:List UInt8) (hb:b.length≤1099511627776) (i:Nat) (h:Int) (hi:i≤b.length) (l:List GString) (hl:l≠ []) (h40:l.length≤1099511627776):∃ (x:ByteArray) (j:Nat) (h':Int),x∈l∧j≤b.length∧Con 174 [.pb (cRow b i h),.ro 1 (GString.ros l)] (.str x) [some (.pb (cRow b j h')),none]:=by
 have h0:0 < l.length:=List.length_pos_iff.2 hl
 have ll:(GString.ros l).length=l.length:=by simp
 obtain ⟨x,j,h',hx,hj,c⟩:=spec_l1Below b hb i h hi l.length (by omega)
 have hlt:x.toNat < l.length:=by omega
 have hr:(GString.ros l)[x.toNat]?=some (GString.ro l[x.toNat]):=map_get _ _ hlt
 rw[←ll] at c
 refine ⟨l[x.toNat],j,h',List.getElem_mem _,hj,?_⟩
 refine con Tryz.func174 ?_
 exact ⟨[.mut,.ro],.int .i64 x,[some (.pb (cRow b j h')),none],c,trivial,hx.1,_,hr,.refl _,.refl _,trivial⟩
theorem spec_l1Word (b:List UInt8) (hb:b.length≤1099511627776) (i:Nat) (h:Int) (hi:i≤b.length):∃ (x:Int) (j:Nat) (h':Int),(0≤x∧x≤65535)∧j≤b.length∧Con 241 [.pb (cRow b i h)] (.int .i64 x) [some (.pb (cRow b j h'))]:=by
 obtain ⟨x,j,h1,hx,hj,c⟩:=spec_l1Below b hb i h hi 65536 (by decide)
 obtain ⟨y,k,h2,hy,hk,c2⟩:=spec_l1Int b hb j h1 hj [0,1,2,3,5,8,255,32767,32768,65535,x] (by simp) (by simp)
 refine ⟨y,k,h2,?_,hk,?_⟩
 ·simp only[List.mem_cons,List.not_mem_nil,or_false] at hy
  omega
 refine con Tryz.func241 ?_
 exact ⟨[.mut,.ro],.int .i64 x,[some (.pb (cRow b j h1)),none],c,trivial,[.mut,.frz],.int .i64 y,[some (.pb (cRow b k h2)),none],c2,trivial,.refl _,.refl _,trivial⟩
end Go.Proofs.VI
