/- Contracts of functions, and what they rest on: l16ok. -/
import Derived.Test.YtjlonhiojgljcaaGreatF3
set_option linter.unusedVariables false
set_option linter.unusedSimpArgs false
set_option maxRecDepth 10000
set_option maxHeartbeats 4000000
namespace Go.Proofs.VI
open Go
mutual
def hasK:GExpr→Int→Bool
 | .mk k _ _ l,j=>decide (k=j)||hasKL l j
def hasKL:List GExpr→Int→Bool
 | [],_=>false
 | e::l,j=>hasK e j||hasKL l j
end
mutual
def belowE:GExpr→Int→Bool
 | .mk k m _ l,n=>!(decide (k=11)&&decide (n≤m))&&belowL l n
def belowL:List GExpr→Int→Bool
 | [],_=>true
 | e::l,n=>belowE e n&&belowL l n
end
mutual
def termE:GExpr→Int→Bool
 | .mk k m _ l,n=>termL l n&&(!decide (k=2)&&(!decide (k=3)&&(!decide (k=11)||decide (m < n))))
def termL:List GExpr→Int→Bool
 | [],_=>true
 | e::l,n=>termE e n&&termL l n
end
theorem termL_all (l:List GExpr) (n:Int):termL l n=l.all fun x=>termE x n:=by
 induction l with
 | nil=>rfl
 | cons e l ih=>rw[termL,ih];rfl
theorem termE_un (a:GExpr) (n:Int):termE a n=((a.l.all fun x=>termE x n)&&(!decide (a.k=2)&&(!decide (a.k=3)&&(!decide (a.k=11)||decide (a.n < n))))):=by
 cases a;rw[termE,termL_all];rfl
def placedE (e:GExpr) (n:Int):Bool:=okE e 1 false&&(sameE (foldX e) e&&termE e n)
theorem foldX_fit (e:GExpr) (fe:GExpr.fit e):GExpr.fit (foldX e):=by
 rw[foldX]
 split
 ·rename_i h;exact (foldE_ok ((okE_six e).1 h)).1.fit
 ·exact fe
theorem spec_l16Term:∀ (a:GExpr) (fa:GExpr.fit a) (n:Int),Con 200 [.agg (GExpr.ro a),.int .i64 n] (.bool (termE a n)) [none,none]:=by
 refine GExpr.ind fun a ih fa n=>?_
 have ua:=GExpr.fit_un fa
 have la:=ros_len a.l
 refine con Tryz.func200 ?_
 refine ⟨{i:Nat // i≤a.l.length∧∀ j (h:j < a.l.length),j < i→termE a.l[j] n=true},fun i=>⟨[(1,.int .i64 n),(2,.ptr 0 0 0),(5,.int .i64 i.1)],[(0,.box (GExpr.ro a) [])]⟩,fun i=>a.l.length - i.1,⟨0,Nat.zero_le _,fun j h h2=>absurd h2 (Nat.not_lt_zero _)⟩,?_,?_⟩
 ·exact ⟨rfl,rfl,rfl,rfl,.refl _,trivial⟩
 ·rintro ⟨i,hi,ha⟩
  dsimp only
  refine ⟨fun h=>?_,fun h=>?_⟩<;>simp only[la,decide_eq_true_eq,decide_eq_false_iff_not] at h
  ·have hi:i < a.l.length:=by omega
   refine ⟨Int.natCast_nonneg _,_,ros_get _ _ hi,?_⟩
   refine ⟨[.ro,.ro],.bool (termE a.l[i] n),[none,none],ih _ (List.getElem_mem hi) (ua.2 _ (List.getElem_mem _)) n,trivial,?_⟩
   refine ⟨fun h=>⟨.of_eq (congrArg AV.bool ?_),trivial⟩,fun h=>?_⟩<;>simp only[Bool.not_eq_true',Bool.not_eq_false'] at h
   ·rw[termE_un,List.all_eq_false.2 ⟨_,List.getElem_mem hi,by simp[h]⟩];rfl
   ·exact ⟨⟨i+1,hi,fun j h1 hj=>le_succ (q:=fun j=>∀ hj:j < a.l.length,termE a.l[j] n=true) (fun j hj h2=>ha j h2 hj) (fun _=>h) j hj h1⟩,Nat.sub_succ_lt_self _ _ hi,rfl,rfl,rfl,congrArg (AV.int .i64) (w64 (by omega) (by omega)),.refl _,trivial⟩
  ·have e:termE a n=(!decide (a.k=2)&&(!decide (a.k=3)&&(!decide (a.k=11)||decide (a.n < n)))):=by
    rw[termE_un,List.all_eq_true.2 fun x hx=>?_]
    ·rfl
    obtain ⟨j,hj,rfl⟩:=List.mem_iff_getElem.1 hx
    exact ha j hj (by omega)
   rw[e]
   clear e ha ih ua fa
   repeat' (first | refine And.intro (fun (h:_=true)=>?_) (fun (h:_=false)=>?_) | refine And.intro (fun (h:_=false)=>?_) (fun (h:_=true)=>?_) | refine And.intro (show regOk _ _=true from by kernel_rfl) ?_ | refine And.intro (Sim.of_eq (congrArg AV.bool ?_)) trivial | fail)
   all_goals simp_all
theorem spec_l16Right (e:GExpr) (n:Int) (fe:GExpr.fit e) (oe:GExpr.ok e):Con 142 [.agg (GExpr.ro e),.int .i64 n] (.bool (placedE e n)) [none,none]:=by
 refine con Tryz.func142 ?_
 have c1:=spec_ExprOk e fe oe
 have c2:=spec_Fold e fe oe
 have c3:=spec_SameExpr (foldX e) e (foldX_fit e fe) fe
 have c4:=spec_l16Term e fe n
 repeat' (first | refine And.intro (fun (h:_=true)=>?_) (fun (h:_=false)=>?_) | refine And.intro (fun (h:_=false)=>?_) (fun (h:_=true)=>?_) | refine And.intro (show regOk _ _=true from by kernel_rfl) ?_ | refine And.intro (Sim.of_eq (congrArg AV.bool ?_)) trivial | refine ⟨[.ro],.bool _,[none],c1,trivial,?_⟩ | refine ⟨[.ro],.agg _,[none],c2,trivial,?_⟩ | refine ⟨[.ro,.ro],.bool _,[none,none],c3,trivial,?_⟩ | refine ⟨[.ro,.ro],.bool _,[none,none],c4,trivial,?_⟩ | fail)
 all_goals clear c1 c2 c3 c4
 all_goals rw[placedE]
 all_goals simp_all
end Go.Proofs.VI
