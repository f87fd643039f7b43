/- Contracts of functions, and what they rest on: l10draw. -/
import Derived.Test.YtjlonhiojgljcaaGreatH1
import Derived.Test.YtjlonhiojgljcaaGreatH2
set_option linter.unusedVariables false
set_option linter.unusedSimpArgs false
set_option maxRecDepth 10000
set_option maxHeartbeats 4000000
namespace Go.Proofs.VI
open Go
def strA (c:UInt8):ByteArray:=⟨#[c]⟩
theorem nm_a:isNm (strA 97)=true∧isNm (strA 98)=true∧isNm (strA 99)=true∧isNm (strA 103)=true∧isNm (strA 104)=true:=by decide
theorem spec_l10Leaf (b:List UInt8) (hb:b.length≤1099511627776) (i:Nat) (h:Int) (hi:i≤b.length) (p:Bool):∃ (e:GExpr) (j:Nat) (h':Int),OkX 1 e∧j≤b.length∧Con 176 [.pb (cRow b i h),.bool p] (.agg (GExpr.ro e)) [some (.pb (cRow b j h')),none]:=by
 obtain ⟨x,j1,h1,hx,hj1,c1⟩:=spec_l1Below b hb i h hi 7 (by decide)
 have hc:x=0∨x=1∨x=2∨x=3∨x=4∨x=5∨x=6:=by omega
 by_cases x01:x=0∨x=1
 ·obtain ⟨y,j2,h2,hy,hj2,c2⟩:=spec_l1Int b hb j1 h1 hj1 [0,1,2,5,8,100,65535] (by simp) (by simp)
  refine ⟨numE y,j2,h2,num_ok y,hj2,?_⟩
  refine con Tryz.func176 ?_
  rcases x01 with rfl | rfl
  all_goals
   repeat' (first | (exfalso;simp at h;done) | refine And.intro (fun (h:_=true)=>?_) (fun (h:_=false)=>?_) | refine And.intro (fun (h:_=false)=>?_) (fun (h:_=true)=>?_) | refine And.intro (show regOk _ _=true from by kernel_rfl) ?_ | refine ⟨[.mut,.ro],.int .i64 _,[_,none],c1,trivial,?_⟩ | refine ⟨[.mut,.frz],.int .i64 y,[some (.pb (cRow b j2 h2)),none],c2,trivial,?_⟩ | refine ⟨[.ro],.agg (GExpr.ro (numE y)),[none],spec_l10Num y,trivial,?_⟩ | refine And.intro (Sim.refl _) (And.intro (Sim.refl _) trivial) | fail)
 by_cases x23:x=2∨x=3
 ·obtain ⟨y,j2,h2,hy,hj2,c2⟩:=spec_l1Str b hb j1 h1 hj1 [strA 97,strA 98,strA 99] (by simp) (by simp)
  have hn:isNm y=true:=by
   simp only[List.mem_cons,List.not_mem_nil,or_false] at hy
   rcases hy with rfl | rfl | rfl
   ·exact nm_a.1
   ·exact nm_a.2.1
   ·exact nm_a.2.2.1
  refine ⟨.mk 2 0 y [],j2,h2,.name (.inl rfl) hn,hj2,?_⟩
  refine con Tryz.func176 ?_
  rcases x23 with rfl | rfl
  all_goals
   repeat' (first | (exfalso;simp at h;done) | refine And.intro (fun (h:_=true)=>?_) (fun (h:_=false)=>?_) | refine And.intro (fun (h:_=false)=>?_) (fun (h:_=true)=>?_) | refine And.intro (show regOk _ _=true from by kernel_rfl) ?_ | refine ⟨[.mut,.ro],.int .i64 _,[_,none],c1,trivial,?_⟩ | refine ⟨[.mut,.frz],.str y,[some (.pb (cRow b j2 h2)),none],c2,trivial,?_⟩ | refine And.intro (simNr _ _ _) (And.intro (Sim.refl _) trivial) | fail)
 by_cases x4:x=4
 ·subst x4
  refine ⟨.mk 3 0 ⟨#[]⟩ [],j1,h1,.here,hj1,?_⟩
  refine con Tryz.func176 ?_
  repeat' (first | (exfalso;simp at h;done) | refine And.intro (fun (h:_=true)=>?_) (fun (h:_=false)=>?_) | refine And.intro (fun (h:_=false)=>?_) (fun (h:_=true)=>?_) | refine And.intro (show regOk _ _=true from by kernel_rfl) ?_ | refine ⟨[.mut,.ro],.int .i64 _,[_,none],c1,trivial,?_⟩ | refine And.intro (simNr _ _ _) (And.intro (Sim.refl _) trivial) | fail)
 have x56:x=5∨x=6:=by omega
 cases p
 ·obtain ⟨o,j2,h2,hj2,c2⟩:=spec_l1Once b hb j1 h1 hj1 2 (by decide)
  cases o
  ·obtain ⟨y,j3,h3,hy,hj3,c3⟩:=spec_l1Str b hb j2 h2 hj2 [strA 103,strA 104] (by simp) (by simp)
   have hn:isNm y=true:=by
    simp only[List.mem_cons,List.not_mem_nil,or_false] at hy
    rcases hy with rfl | rfl
    ·exact nm_a.2.2.2.1
    ·exact nm_a.2.2.2.2
   refine ⟨.mk 12 0 y [],j3,h3,.name (.inr rfl) hn,hj3,?_⟩
   refine con Tryz.func176 ?_
   rcases x56 with rfl | rfl
   all_goals
    repeat' (first | (exfalso;simp at h;done) | refine And.intro (fun (h:_=true)=>?_) (fun (h:_=false)=>?_) | refine And.intro (fun (h:_=false)=>?_) (fun (h:_=true)=>?_) | refine And.intro (show regOk _ _=true from by kernel_rfl) ?_ | refine ⟨[.mut,.ro],.int .i64 _,[_,none],c1,trivial,?_⟩ | refine ⟨[.mut,.ro],.bool false,[_,none],c2,trivial,?_⟩ | refine ⟨[.mut,.frz],.str y,[some (.pb (cRow b j3 h3)),none],c3,trivial,?_⟩ | refine And.intro (simNr _ _ _) (And.intro (Sim.refl _) trivial) | fail)
  ·obtain ⟨y,j3,h3,hy,hj3,c3⟩:=spec_l1Below b hb j2 h2 hj2 3 (by decide)
   refine ⟨.mk 11 y ⟨#[]⟩ [],j3,h3,.sect hy.1 (by omega),hj3,?_⟩
   refine con Tryz.func176 ?_
   rcases x56 with rfl | rfl
   all_goals
    repeat' (first | (exfalso;simp at h;done) | refine And.intro (fun (h:_=true)=>?_) (fun (h:_=false)=>?_) | refine And.intro (fun (h:_=false)=>?_) (fun (h:_=true)=>?_) | refine And.intro (show regOk _ _=true from by kernel_rfl) ?_ | refine ⟨[.mut,.ro],.int .i64 _,[_,none],c1,trivial,?_⟩ | refine ⟨[.mut,.ro],.bool true,[_,none],c2,trivial,?_⟩ | refine ⟨[.mut,.ro],.int .i64 y,[some (.pb (cRow b j3 h3)),none],c3,trivial,?_⟩ | refine And.intro (simNr _ _ _) (And.intro (Sim.refl _) trivial) | fail)
 ·obtain ⟨y,j2,h2,hy,hj2,c2⟩:=spec_l1Word b hb j1 h1 hj1
  refine ⟨numE y,j2,h2,num_ok y,hj2,?_⟩
  refine con Tryz.func176 ?_
  rcases x56 with rfl | rfl
  all_goals
   repeat' (first | (exfalso;simp at h;done) | refine And.intro (fun (h:_=true)=>?_) (fun (h:_=false)=>?_) | refine And.intro (fun (h:_=false)=>?_) (fun (h:_=true)=>?_) | refine And.intro (show regOk _ _=true from by kernel_rfl) ?_ | refine ⟨[.mut,.ro],.int .i64 _,[_,none],c1,trivial,?_⟩ | refine ⟨[.mut],.int .i64 y,[some (.pb (cRow b j2 h2))],c2,trivial,?_⟩ | refine ⟨[.ro],.agg (GExpr.ro (numE y)),[none],spec_l10Num y,trivial,?_⟩ | refine And.intro (Sim.refl _) (And.intro (Sim.refl _) trivial) | fail)
theorem spec_l10Draw (b:List UInt8) (hb:b.length≤1099511627776) (p:Bool):∀ (d:Nat) (hd:d≤100) (i:Nat) (h:Int) (hi:i≤b.length),∃ (e:GExpr) (j:Nat) (h':Int),OkX (d+1) e∧j≤b.length∧Con 113 [.pb (cRow b i h),.int .i64 d,.bool p] (.agg (GExpr.ro e)) [some (.pb (cRow b j h')),none,none]
 | 0,hd,i,h,hi=>by
  obtain ⟨e,j,h',he,hj,c⟩:=spec_l10Leaf b hb i h hi p
  refine ⟨e,j,h',he,hj,?_⟩
  refine con Tryz.func113 ?_
  repeat' (first | (exfalso;simp at h;done) | refine And.intro (fun (h:_=true)=>?_) (fun (h:_=false)=>?_) | refine And.intro (fun (h:_=false)=>?_) (fun (h:_=true)=>?_) | refine And.intro (show regOk _ _=true from by kernel_rfl) ?_ | refine ⟨[.mut,.ro],.agg (GExpr.ro e),[some (.pb (cRow b j h')),none],c,trivial,?_⟩ | refine And.intro (Sim.refl _) (And.intro (Sim.refl _) trivial) | fail)
 | d+1,hd,i,h,hi=>by
  have e0:decide (((d+1:Nat):Int)=0)=false:=decide_eq_false (by omega)
  have e1:IntKind.wrap .i64 (((d+1:Nat):Int) - 1)=(d:Int):=(w64 (by omega) (by omega)).trans (by omega)
  obtain ⟨o,j1,h1,hj1,c1⟩:=spec_l1Once b hb i h hi 3 (by decide)
  cases o
  ·obtain ⟨k,j2,h2,hk,hj2,c2⟩:=spec_l1Int b hb j1 h1 hj1 [5,5,5,6,6,4,7,8,9,10] (by simp) (by simp)
   have hk2:4≤k∧k≤10:=by
    simp only[List.mem_cons,List.not_mem_nil,or_false] at hk
    omega
   clear hk
   obtain ⟨a,j3,h3,ha,hj3,c3⟩:=spec_l10Draw b hb p d (by omega) j2 h2 hj2
   rw[←e1] at c3
   by_cases k4:k=4
   ·subst k4
    refine ⟨.mk 4 0 ⟨#[]⟩ [a],j3,h3,.neg ha,hj3,?_⟩
    refine con Tryz.func113 ?_
    repeat' (first | (exfalso;simp at h;done) | (exfalso;rw[e0] at h;cases h;done) | refine And.intro (fun (h:_=true)=>?_) (fun (h:_=false)=>?_) | refine And.intro (fun (h:_=false)=>?_) (fun (h:_=true)=>?_) | refine And.intro (show regOk _ _=true from by kernel_rfl) ?_ | refine ⟨[.mut,.ro],.bool false,[_,none],c1,trivial,?_⟩ | refine ⟨[.mut,.frz],.int .i64 4,[some (.pb (cRow b j2 h2)),none],c2,trivial,?_⟩ | refine ⟨[.mut,.ro,.ro],.agg (GExpr.ro a),[some (.pb (cRow b j3 h3)),none,none],c3,trivial,?_⟩ | refine And.intro (simLr 4 0 _ [a]) (And.intro (Sim.refl _) trivial) | fail)
   ·have e4:decide (k=4)=false:=decide_eq_false k4
    obtain ⟨a2,j4,h4,ha2,hj4,c4⟩:=spec_l10Draw b hb p d (by omega) j3 h3 hj3
    rw[←e1] at c4
    refine ⟨.mk k 0 ⟨#[]⟩ [a,a2],j4,h4,.two (by omega) (by omega) ha ha2,hj4,?_⟩
    refine con Tryz.func113 ?_
    repeat' (first | (exfalso;simp at h;done) | (exfalso;rw[e4] at h;cases h;done) | (exfalso;rw[e0] at h;cases h;done) | refine And.intro (fun (h:_=true)=>?_) (fun (h:_=false)=>?_) | refine And.intro (fun (h:_=false)=>?_) (fun (h:_=true)=>?_) | refine And.intro (show regOk _ _=true from by kernel_rfl) ?_ | refine ⟨[.mut,.ro],.bool false,[_,none],c1,trivial,?_⟩ | refine ⟨[.mut,.frz],.int .i64 k,[some (.pb (cRow b j2 h2)),none],c2,trivial,?_⟩ | refine ⟨[.mut,.ro,.ro],.agg (GExpr.ro a),[some (.pb (cRow b j3 h3)),none,none],c3,trivial,?_⟩ | refine ⟨[.mut,.ro,.ro],.agg (GExpr.ro a2),[some (.pb (cRow b j4 h4)),none,none],c4,trivial,?_⟩ | refine And.intro (simT k 0 _ a a2) (And.intro (Sim.refl _) trivial) | fail)
  ·obtain ⟨e,j,h',he,hj,c⟩:=spec_l10Leaf b hb j1 h1 hj1 p
   refine ⟨e,j,h',he.up _ (by omega),hj,?_⟩
   refine con Tryz.func113 ?_
   repeat' (first | (exfalso;simp at h;done) | (exfalso;rw[e0] at h;cases h;done) | refine And.intro (fun (h:_=true)=>?_) (fun (h:_=false)=>?_) | refine And.intro (fun (h:_=false)=>?_) (fun (h:_=true)=>?_) | refine And.intro (show regOk _ _=true from by kernel_rfl) ?_ | refine ⟨[.mut,.ro],.bool true,[_,none],c1,trivial,?_⟩ | refine ⟨[.mut,.ro],.agg (GExpr.ro e),[some (.pb (cRow b j h')),none],c,trivial,?_⟩ | refine And.intro (Sim.refl _) (And.intro (Sim.refl _) trivial) | fail)
def hNew (b:List UInt8):Nat→Int
 | 0=>IntKind.wrap .i64 (766766+(b.length:Int))
 | i+1=>bitsI .and .i64 (IntKind.wrap .i64 (IntKind.wrap .i64 (IntKind.wrap .i64 (hNew b i*137)+IntKind.wrap .i64 ((b.getD i 0).toNat:Int))+11)) 1073741823
theorem spec_l1New (b:List UInt8) (hb:b.length≤1099511627776):∃ (h':Int),Con 105 [.ro 1 (GByte.ros b)] (.pb (cRow b 0 h')) [none]:=by
 have lb:(GByte.ros b).length=b.length:=by simp
 refine ⟨hNew b (min b.length 4000),?_⟩
 refine con Tryz.func105 ?_
 refine ⟨{i:Nat // i≤b.length∧i≤4000},fun i=>⟨[(0,.ro 1 (GByte.ros b)),(3,.int .i64 (hNew b i.1)),(4,.int .i64 i.1)],[]⟩,fun i=>b.length - i.1,⟨0,by omega⟩,?_,?_⟩
 ·exact ⟨rfl,congrArg (AV.int .i64) (by rw[lb];rfl),rfl,trivial⟩
 ·rintro ⟨i,hi,hi4⟩
  dsimp only
  by_cases g:i < b.length∧i < 4000
  ·have e0:decide ((i:Int) < ((GByte.ros b).length:Int))=true:=decide_eq_true (by rw[lb];omega)
   have e2:decide ((i:Int) < 4000)=true:=decide_eq_true (by omega)
   have hr:(GByte.ros b)[i]?=some (GByte.ro b[i]):=map_get _ _ g.1
   have hg:b.getD i 0=b[i]:=by simp[g.1]
   have e1:IntKind.wrap .i64 ((i:Int)+1)=((i+1:Nat):Int):=w64 (by omega) (by omega)
   have hN:bitsI .and .i64 (IntKind.wrap .i64 (IntKind.wrap .i64 (IntKind.wrap .i64 (hNew b i*137)+IntKind.wrap .i64 ((b[i].toNat:Nat):Int))+11)) 1073741823=hNew b (i+1):=by rw[hNew,hg]
   repeat' (first | (exfalso;(first | rw[e0] at h | rw[e2] at h);cases h;done) | refine And.intro (fun (h:_=true)=>?_) (fun (h:_=false)=>?_) | refine And.intro (fun (h:_=false)=>?_) (fun (h:_=true)=>?_) | refine And.intro (show regOk _ _=true from by kernel_rfl) ?_ | refine ⟨Int.natCast_nonneg _,_,hr,?_⟩ | refine ⟨⟨i+1,g.1,g.2⟩,Nat.sub_succ_lt_self _ _ g.1,rfl,congrArg (AV.int .i64) hN,congrArg (AV.int .i64) e1,trivial⟩ | fail)
  ·have hm:min b.length 4000=i:=by omega
   rw[hm]
   rcases Nat.lt_or_ge i b.length with g1 | g1
   ·have e0:decide ((i:Int) < ((GByte.ros b).length:Int))=true:=decide_eq_true (by rw[lb];omega)
    have e2:decide ((i:Int) < 4000)=false:=decide_eq_false (by omega)
    repeat' (first | (exfalso;(first | rw[e0] at h | rw[e2] at h);cases h;done) | refine And.intro (fun (h:_=true)=>?_) (fun (h:_=false)=>?_) | refine And.intro (fun (h:_=false)=>?_) (fun (h:_=true)=>?_) | refine And.intro (show regOk _ _=true from by kernel_rfl) ?_ | refine And.intro (Sim.refl _) trivial | fail)
   ·have e0:decide ((i:Int) < ((GByte.ros b).length:Int))=false:=decide_eq_false (by rw[lb];omega)
    repeat' (first | (exfalso;rw[e0] at h;cases h;done) | refine And.intro (fun (h:_=true)=>?_) (fun (h:_=false)=>?_) | refine And.intro (fun (h:_=false)=>?_) (fun (h:_=true)=>?_) | refine And.intro (show regOk _ _=true from by kernel_rfl) ?_ | refine And.intro (Sim.refl _) trivial | fail)
end Go.Proofs.VI
