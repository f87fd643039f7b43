/- Contracts of functions, and what they rest on: l11f3. -/
import Derived.Test.YtjlonhiojgljcaaGreatF2
set_option linter.unusedVariables false
set_option linter.unusedSimpArgs false
set_option maxRecDepth 10000
set_option maxHeartbeats 4000000
namespace Go.Proofs.VI
open Go
theorem spec_l11Fold {h:Nat} {e:GExpr} (x:OkX h e):Con 244 [.agg (GExpr.ro e)] (.agg (GExpr.ro (foldE e))) [none]:=by
 induction x with
 | @num m n h0 h1=>
  have c:=spec_l11Copy (.mk 1 n ⟨#[]⟩ []) (OkX.num (h:=m) h0 h1).fit
  refine con Tryz.func244 ?_
  refine ⟨fun _=>?_,fun h=>by exfalso;simp[l_mk,ros_len] at h⟩
  exact ⟨[.ro],.agg _,[none],c,trivial,simOwRo _,trivial⟩
 | @name m k s hk hs=>
  have c:=spec_l11Copy (.mk k 0 s []) (OkX.name (h:=m) hk hs).fit
  refine con Tryz.func244 ?_
  refine ⟨fun _=>?_,fun h=>by exfalso;simp[l_mk,ros_len] at h⟩
  exact ⟨[.ro],.agg _,[none],c,trivial,simOwRo _,trivial⟩
 | @here m=>
  have c:=spec_l11Copy (.mk 3 0 ⟨#[]⟩ []) (OkX.here (h:=m)).fit
  refine con Tryz.func244 ?_
  refine ⟨fun _=>?_,fun h=>by exfalso;simp[l_mk,ros_len] at h⟩
  exact ⟨[.ro],.agg _,[none],c,trivial,simOwRo _,trivial⟩
 | @sect m n h0 h1=>
  have c:=spec_l11Copy (.mk 11 n ⟨#[]⟩ []) (OkX.sect (h:=m) h0 h1).fit
  refine con Tryz.func244 ?_
  refine ⟨fun _=>?_,fun h=>by exfalso;simp[l_mk,ros_len] at h⟩
  exact ⟨[.ro],.agg _,[none],c,trivial,simOwRo _,trivial⟩
 | @neg m a ha ih=>
  have r0:(GExpr.ros [a])[0]?=some (GExpr.ro a):=ros_get [a] 0 (by simp)
  have cn:=spec_l10Num (IntKind.wrap .i64 (-(foldE a).n))
  rw[numE_wrap] at cn
  have hX:foldE (.mk 4 0 ⟨#[]⟩ [a])=if (foldE a).k=1 then numE (-(foldE a).n) else .mk 4 0 ⟨#[]⟩ [foldE a]:=rfl
  rw[hX]
  refine con Tryz.func244 ?_
  refine ⟨fun h=>by exfalso;simp[l_mk,ros_len] at h,fun _=>?_⟩
  by_cases hk:(foldE a).k=1
  ·rw[if_pos hk]
   repeat' (first | (exfalso;simp[hk,k_mk] at h;done) | refine And.intro (fun (h:_=true)=>?_) (fun (h:_=false)=>?_) | refine And.intro (fun (h:_=false)=>?_) (fun (h:_=true)=>?_) | refine And.intro (show regOk _ _=true from by kernel_rfl) ?_ | refine ⟨Int.le_refl 0,_,r0,?_⟩ | refine ⟨[.ro],.agg _,[none],ih,trivial,?_⟩ | refine ⟨[.ro],.agg _,[none],cn,trivial,?_⟩ | refine And.intro (Sim.refl _) trivial | fail)
  ·rw[if_neg hk]
   repeat' (first | (exfalso;simp[hk,k_mk] at h;done) | refine And.intro (fun (h:_=true)=>?_) (fun (h:_=false)=>?_) | refine And.intro (fun (h:_=false)=>?_) (fun (h:_=true)=>?_) | refine And.intro (show regOk _ _=true from by kernel_rfl) ?_ | refine ⟨Int.le_refl 0,_,r0,?_⟩ | refine ⟨[.ro],.agg _,[none],ih,trivial,?_⟩ | refine ⟨[.ro],.agg _,[none],cn,trivial,?_⟩ | refine And.intro (simLr 4 0 _ [foldE a]) trivial | fail)
 | @two m k a b h0 h1 ha hb iha ihb=>
  have r0:(GExpr.ros [a,b])[0]?=some (GExpr.ro a):=ros_get [a,b] 0 (by simp)
  have r1:(GExpr.ros [a,b])[1]?=some (GExpr.ro b):=ros_get [a,b] 1 (by simp)
  obtain ⟨oa,fa⟩:=foldE_ok ha
  obtain ⟨ob,fb⟩:=foldE_ok hb
  have k4:k≠4:=by omega
  have hX:foldE (.mk k 0 ⟨#[]⟩ [a,b])=ftwoE k (foldE a) (foldE b):=rfl
  rw[hX]
  clear hX ha hb
  generalize foldE a=A at*
  generalize foldE b=B at*
  have cs:=spec_l11Sub A B oa ob
  by_cases ka:A.k=1<;>by_cases kb:B.k=1
  ·have cc:=spec_l11Two k A.n B.n
   rcases hc:compE k A.n B.n with _ | n<;>rw[hc] at cc
   ·have k5:k≠5:=fun e=>by subst e;simp[compE] at hc
    have k6:k≠6:=fun e=>by subst e;simp[compE] at hc
    have hX:ftwoE k A B=twoE k A B:=by simp[ftwoE,ka,kb,hc,pairE,k5,k6]
    rw[hX]
    refine con Tryz.func244 ?_
    refine ⟨fun h=>by exfalso;simp[l_mk,ros_len] at h,fun _=>?_⟩
    repeat' (first | (exfalso;simp[ka,kb,k_mk,k4,k5,k6] at h;done) | refine And.intro (fun (h:_=true)=>?_) (fun (h:_=false)=>?_) | refine And.intro (fun (h:_=false)=>?_) (fun (h:_=true)=>?_) | refine And.intro (show regOk _ _=true from by kernel_rfl) ?_ | refine ⟨Int.le_refl 0,_,r0,?_⟩ | refine ⟨(show (0:Int)≤1 from by decide),_,r1,?_⟩ | refine ⟨[.ro],.agg _,[none],iha,trivial,?_⟩ | refine ⟨[.ro],.agg _,[none],ihb,trivial,?_⟩ | refine ⟨[.ro,.ro,.ro],.tup [.int .i64 _,.ff],[none,none,none],.nbr rfl cc,trivial,?_⟩ | refine And.intro (simT k 0 _ A B) trivial | fail)
   ·have hX:ftwoE k A B=numE n:=by simp[ftwoE,ka,kb,hc]
    rw[hX]
    refine con Tryz.func244 ?_
    refine ⟨fun h=>by exfalso;simp[l_mk,ros_len] at h,fun _=>?_⟩
    repeat' (first | (exfalso;simp[ka,kb,k_mk,k4] at h;done) | refine And.intro (fun (h:_=true)=>?_) (fun (h:_=false)=>?_) | refine And.intro (fun (h:_=false)=>?_) (fun (h:_=true)=>?_) | refine And.intro (show regOk _ _=true from by kernel_rfl) ?_ | refine ⟨Int.le_refl 0,_,r0,?_⟩ | refine ⟨(show (0:Int)≤1 from by decide),_,r1,?_⟩ | refine ⟨[.ro],.agg _,[none],iha,trivial,?_⟩ | refine ⟨[.ro],.agg _,[none],ihb,trivial,?_⟩ | refine ⟨[.ro,.ro,.ro],.tup [.int .i64 _,.tt],[none,none,none],.nbr rfl cc,trivial,?_⟩ | refine ⟨[.ro],.agg _,[none],spec_l10Num n,trivial,?_⟩ | refine And.intro (Sim.refl _) trivial | fail)
  all_goals
   by_cases k6:k=6
   ·have hX:ftwoE k A B=subE A B:=by subst k6;simp[ftwoE,ka,kb,pairE]
    rw[hX]
    refine con Tryz.func244 ?_
    refine ⟨fun h=>by exfalso;simp[l_mk,ros_len] at h,fun _=>?_⟩
    repeat' (first | (exfalso;simp[ka,kb,k_mk,k4,k6] at h;done) | refine And.intro (fun (h:_=true)=>?_) (fun (h:_=false)=>?_) | refine And.intro (fun (h:_=false)=>?_) (fun (h:_=true)=>?_) | refine And.intro (show regOk _ _=true from by kernel_rfl) ?_ | refine ⟨Int.le_refl 0,_,r0,?_⟩ | refine ⟨(show (0:Int)≤1 from by decide),_,r1,?_⟩ | refine ⟨[.ro],.agg _,[none],iha,trivial,?_⟩ | refine ⟨[.ro],.agg _,[none],ihb,trivial,?_⟩ | refine ⟨[.ro,.ro],.agg _,[none,none],cs,trivial,?_⟩ | refine And.intro (Sim.refl _) trivial | fail)
   by_cases k5:k=5
  ·have na:=oa.num_in ka
   have c1:=spec_l11Sum B A.n ob (by omega) (by omega)
   have hX:ftwoE k A B=sumE B A.n:=by subst k5;simp[ftwoE,ka,kb,pairE]
   rw[hX]
   refine con Tryz.func244 ?_
   refine ⟨fun h=>by exfalso;simp[l_mk,ros_len] at h,fun _=>?_⟩
   repeat' (first | (exfalso;simp[ka,kb,k_mk,k4,k6,k5] at h;done) | refine And.intro (fun (h:_=true)=>?_) (fun (h:_=false)=>?_) | refine And.intro (fun (h:_=false)=>?_) (fun (h:_=true)=>?_) | refine And.intro (show regOk _ _=true from by kernel_rfl) ?_ | refine ⟨Int.le_refl 0,_,r0,?_⟩ | refine ⟨(show (0:Int)≤1 from by decide),_,r1,?_⟩ | refine ⟨[.ro],.agg _,[none],iha,trivial,?_⟩ | refine ⟨[.ro],.agg _,[none],ihb,trivial,?_⟩ | refine ⟨[.ro,.ro],.agg _,[none,none],c1,trivial,?_⟩ | refine And.intro (Sim.refl _) trivial | fail)
  rotate_left
  ·have nb:=ob.num_in kb
   have c1:=spec_l11Sum A B.n oa (by omega) (by omega)
   have hX:ftwoE k A B=sumE A B.n:=by subst k5;simp[ftwoE,ka,kb,pairE]
   rw[hX]
   refine con Tryz.func244 ?_
   refine ⟨fun h=>by exfalso;simp[l_mk,ros_len] at h,fun _=>?_⟩
   repeat' (first | (exfalso;simp[ka,kb,k_mk,k4,k6,k5] at h;done) | refine And.intro (fun (h:_=true)=>?_) (fun (h:_=false)=>?_) | refine And.intro (fun (h:_=false)=>?_) (fun (h:_=true)=>?_) | refine And.intro (show regOk _ _=true from by kernel_rfl) ?_ | refine ⟨Int.le_refl 0,_,r0,?_⟩ | refine ⟨(show (0:Int)≤1 from by decide),_,r1,?_⟩ | refine ⟨[.ro],.agg _,[none],iha,trivial,?_⟩ | refine ⟨[.ro],.agg _,[none],ihb,trivial,?_⟩ | refine ⟨[.ro,.ro],.agg _,[none,none],c1,trivial,?_⟩ | refine And.intro (Sim.refl _) trivial | fail)
  all_goals
   have hX:ftwoE k A B=twoE k A B:=by simp[ftwoE,ka,kb,pairE,k6,k5]
   rw[hX]
   refine con Tryz.func244 ?_
   refine ⟨fun h=>by exfalso;simp[l_mk,ros_len] at h,fun _=>?_⟩
   repeat' (first | (exfalso;simp[ka,kb,k_mk,k4,k6,k5] at h;done) | refine And.intro (fun (h:_=true)=>?_) (fun (h:_=false)=>?_) | refine And.intro (fun (h:_=false)=>?_) (fun (h:_=true)=>?_) | refine And.intro (show regOk _ _=true from by kernel_rfl) ?_ | refine ⟨Int.le_refl 0,_,r0,?_⟩ | refine ⟨(show (0:Int)≤1 from by decide),_,r1,?_⟩ | refine ⟨[.ro],.agg _,[none],iha,trivial,?_⟩ | refine ⟨[.ro],.agg _,[none],ihb,trivial,?_⟩ | refine And.intro (simT k 0 _ A B) trivial | fail)
def foldX (e:GExpr):GExpr:=if okE e 1 false=true then foldE e else e
def knownE (e:GExpr):Option Int:=if (okE e 1 false&&decide ((foldX e).k=1))=true then some (foldX e).n else none
theorem spec_Fold (e:GExpr) (fe:GExpr.fit e) (oe:GExpr.ok e):Con 182 [.agg (GExpr.ro e)] (.agg (GExpr.ro (foldX e))) [none]:=by
 refine con Tryz.func182 ?_
 refine ⟨[.ro],.bool (okE e 1 false),[none],spec_ExprOk e fe oe,trivial,fun h=>?_,fun h=>?_⟩<;>simp only[Bool.not_eq_true',Bool.not_eq_false'] at h
 ·rw[foldX,if_neg (by rw[h];simp)]
  exact ⟨[.ro],.agg (GExpr.ow e),[none],spec_l11Copy e fe,trivial,simOwRo e,trivial⟩
 ·rw[foldX,if_pos h]
  exact ⟨[.ro],.agg (GExpr.ro (foldE e)),[none],spec_l11Fold ((okE_six e).1 h),trivial,.refl _,trivial⟩
theorem spec_Known (e:GExpr) (fe:GExpr.fit e) (oe:GExpr.ok e):Con 321 [.agg (GExpr.ro e)] (gI (knownE e)) [none]:=by
 refine con Tryz.func321 ?_
 have c:=spec_Fold e fe oe
 have c2:=spec_ExprOk e fe oe
 rw[knownE]
 repeat' (first | refine And.intro (fun (h:_=true)=>?_) (fun (h:_=false)=>?_) | refine And.intro (fun (h:_=false)=>?_) (fun (h:_=true)=>?_) | refine And.intro (show regOk _ _=true from by kernel_rfl) ?_ | refine And.intro (Sim.nb ?_) trivial | refine ⟨[.ro],.agg _,[none],c,trivial,?_⟩ | refine ⟨[.ro],.bool _,[none],c2,trivial,?_⟩ | fail)
 all_goals clear c c2
 all_goals simp_all[gI,nb,nbAs,nbA,nbC,tuple]
end Go.Proofs.VI
