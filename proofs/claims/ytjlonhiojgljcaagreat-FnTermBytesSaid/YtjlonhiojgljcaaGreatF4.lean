/- Contracts of functions, and what they rest on: l15w. -/
import Derived.Test.YtjlonhiojgljcaaGreatF3
set_option linter.unusedVariables false
set_option linter.unusedSimpArgs false
set_option maxRecDepth 10000
set_option maxHeartbeats 4000000
namespace Go.Proofs.VI
open Go
def argW (a:GArg):Int:=if 6≤a.form then 1 else 0
def wordsOf (x:GLine):Int:=
 if x.k=3 then 1+argW x.src+argW x.dst else if x.k=4 then x.l.length
 else if x.k=5 then (match x.l with | [e]=>(match knownE e with | some n=>n | none=>0) | _=>0) else 0
theorem len_one {l:List GExpr}:(∃ a,l=[a])∨((l.length:Int)≠1∧∀ (f:GExpr→Int),(match l with | [e]=>f e | _=>0)=0):=by
 match l with
 | []=>exact .inr ⟨by simp,fun _=>rfl⟩
 | [a]=>exact .inl ⟨a,rfl⟩
 | _::_::_=>exact .inr ⟨by simp only[List.length_cons];omega,fun _=>rfl⟩
theorem spec_l15Arg (a:GArg):Con 326 [.agg (GArg.ro a)] (.int .i64 (argW a)) [none]:=by
 refine con Tryz.func326 ?_
 repeat' (first | refine And.intro (fun (h:_=true)=>?_) (fun (h:_=false)=>?_) | refine And.intro (fun (h:_=false)=>?_) (fun (h:_=true)=>?_) | refine And.intro (show regOk _ _=true from by kernel_rfl) ?_ | refine And.intro (Sim.of_eq (congrArg (AV.int .i64) ?_)) trivial | fail)
 all_goals simp_all[argW]
theorem spec_WordsOf (x:GLine) (hx:GLine.fit x) (ox:GLine.ok x):Con 306 [.agg (GLine.ro x)] (.int .i64 (wordsOf x)) [none]:=by
 refine con Tryz.func306 ?_
 have fx:=GLine.fit_un hx
 have gx:=GLine.ok_un ox
 have la:=ros_len x.l
 have e1:IntKind.wrap .i64 (1+argW x.src)=1+argW x.src:=by rw[argW];split<;>rfl
 have e2:IntKind.wrap .i64 (1+argW x.src+argW x.dst)=1+argW x.src+argW x.dst:=by rw[argW,argW];split<;>split<;>rfl
 rcases len_one (l:=x.l) with ⟨a,hl⟩ | ⟨hl,hl2⟩
 ·have c:=spec_Known a (fx.2.2.2 a (by rw[hl];simp)) (gx.2.2.2.2.2.2.2 a (by rw[hl];simp))
  have r0:(GExpr.ros x.l)[0]?=some (GExpr.ro a):=by rw[hl];exact ros_get [a] 0 (by simp)
  clear fx gx hx ox
  rcases hk:knownE a with _ | n<;>rw[hk] at c
  ·repeat' (first | refine And.intro (fun (h:_=true)=>?_) (fun (h:_=false)=>?_) | refine And.intro (fun (h:_=false)=>?_) (fun (h:_=true)=>?_) | refine And.intro (show regOk _ _=true from by kernel_rfl) ?_ | refine And.intro (Sim.of_eq (congrArg (AV.int .i64) ?_)) trivial | refine ⟨[.ro],.int .i64 _,[none],spec_l15Arg x.src,(by first | exact trivial | exact ⟨trivial,trivial⟩ | exact ⟨GByte.nro _,trivial⟩ | exact ⟨GExpr.noRo_ow _,trivial⟩ | exact ⟨GExpr.nro _,trivial⟩ | exact ⟨GInt.nro _,trivial⟩ | exact ⟨GString.nro _,trivial⟩),?_⟩ | refine ⟨[.ro],.int .i64 _,[none],spec_l15Arg x.dst,(by first | exact trivial | exact ⟨trivial,trivial⟩ | exact ⟨GByte.nro _,trivial⟩ | exact ⟨GExpr.noRo_ow _,trivial⟩ | exact ⟨GExpr.nro _,trivial⟩ | exact ⟨GInt.nro _,trivial⟩ | exact ⟨GString.nro _,trivial⟩),?_⟩ | refine ⟨Int.le_refl 0,_,r0,?_⟩ | refine ⟨[.ro],.tup [.int .i64 _,.bool _],[none],.nbr rfl c,trivial,?_⟩ | fail)
   all_goals clear c r0
   all_goals simp_all[wordsOf]
  ·repeat' (first | refine And.intro (fun (h:_=true)=>?_) (fun (h:_=false)=>?_) | refine And.intro (fun (h:_=false)=>?_) (fun (h:_=true)=>?_) | refine And.intro (show regOk _ _=true from by kernel_rfl) ?_ | refine And.intro (Sim.of_eq (congrArg (AV.int .i64) ?_)) trivial | refine ⟨[.ro],.int .i64 _,[none],spec_l15Arg x.src,(by first | exact trivial | exact ⟨trivial,trivial⟩ | exact ⟨GByte.nro _,trivial⟩ | exact ⟨GExpr.noRo_ow _,trivial⟩ | exact ⟨GExpr.nro _,trivial⟩ | exact ⟨GInt.nro _,trivial⟩ | exact ⟨GString.nro _,trivial⟩),?_⟩ | refine ⟨[.ro],.int .i64 _,[none],spec_l15Arg x.dst,(by first | exact trivial | exact ⟨trivial,trivial⟩ | exact ⟨GByte.nro _,trivial⟩ | exact ⟨GExpr.noRo_ow _,trivial⟩ | exact ⟨GExpr.nro _,trivial⟩ | exact ⟨GInt.nro _,trivial⟩ | exact ⟨GString.nro _,trivial⟩),?_⟩ | refine ⟨Int.le_refl 0,_,r0,?_⟩ | refine ⟨[.ro],.tup [.int .i64 _,.bool _],[none],.nbr rfl c,trivial,?_⟩ | fail)
   all_goals clear c r0
   all_goals simp_all[wordsOf]
 ·clear fx gx hx ox
  repeat' (first | refine And.intro (fun (h:_=true)=>?_) (fun (h:_=false)=>?_) | refine And.intro (fun (h:_=false)=>?_) (fun (h:_=true)=>?_) | refine And.intro (show regOk _ _=true from by kernel_rfl) ?_ | refine And.intro (Sim.of_eq (congrArg (AV.int .i64) ?_)) trivial | refine ⟨[.ro],.int .i64 _,[none],spec_l15Arg x.src,(by first | exact trivial | exact ⟨trivial,trivial⟩ | exact ⟨GByte.nro _,trivial⟩ | exact ⟨GExpr.noRo_ow _,trivial⟩ | exact ⟨GExpr.nro _,trivial⟩ | exact ⟨GInt.nro _,trivial⟩ | exact ⟨GString.nro _,trivial⟩),?_⟩ | refine ⟨[.ro],.int .i64 _,[none],spec_l15Arg x.dst,(by first | exact trivial | exact ⟨trivial,trivial⟩ | exact ⟨GByte.nro _,trivial⟩ | exact ⟨GExpr.noRo_ow _,trivial⟩ | exact ⟨GExpr.nro _,trivial⟩ | exact ⟨GInt.nro _,trivial⟩ | exact ⟨GString.nro _,trivial⟩),?_⟩ | fail)
  all_goals simp_all[wordsOf]
end Go.Proofs.VI
