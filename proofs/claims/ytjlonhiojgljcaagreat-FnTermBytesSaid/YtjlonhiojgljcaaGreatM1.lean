/- Contracts of functions, and what they rest on: l03ins. -/
import Derived.Test.YtjlonhiojgljcaaGreatA4
import Derived.Test.YtjlonhiojgljcaaGreatA1
set_option linter.unusedVariables false
set_option linter.unusedSimpArgs false
set_option maxRecDepth 10000
set_option maxHeartbeats 4000000
namespace Go.Proofs.VI
open Go
def hasX (o:GOpd):Bool:=decide (o.mode=6)||(decide (o.mode=7)||((decide (o.mode=2)||decide (o.mode=3))&&decide (o.reg=7)))
def opdE (o:GOpd):Bool:=inI o.mode 0 7&&(inI o.reg 0 7&&(inI o.x 0 65535&&(decide (o.x=0)||hasX o)))
def zB (o:GOpd):Bool:=decide (o.mode=0)&&(decide (o.reg=0)&&decide (o.x=0))
theorem spec_HasX (o:GOpd):Con 337 [.agg (GOpd.ro o)] (.bool (hasX o)) [none]:=by
 refine con Tryz.func337 ?_
 repeat' (first | refine And.intro (fun (h:_=true)=>?_) (fun (h:_=false)=>?_) | refine And.intro (fun (h:_=false)=>?_) (fun (h:_=true)=>?_) | refine And.intro (show regOk _ _=true from by kernel_rfl) ?_ | refine And.intro (Sim.of_eq (congrArg AV.bool ?_)) trivial | fail)
 all_goals simp_all[hasX]
theorem spec_OpdOk (o:GOpd):Con 348 [.agg (GOpd.ro o)] (.bool (opdE o)) [none]:=by
 refine con Tryz.func348 ?_
 repeat' (first | refine And.intro (fun (h:_=true)=>?_) (fun (h:_=false)=>?_) | refine And.intro (fun (h:_=false)=>?_) (fun (h:_=true)=>?_) | refine And.intro (show regOk _ _=true from by kernel_rfl) ?_ | refine And.intro (Sim.of_eq (congrArg AV.bool ?_)) trivial | refine ⟨[.ro,.ro,.ro],.bool _,[none,none,none],spec_l1In o.mode 0 7,(by first | exact trivial | exact ⟨trivial,trivial⟩ | exact ⟨GByte.nro _,trivial⟩ | exact ⟨GExpr.noRo_ow _,trivial⟩ | exact ⟨GExpr.nro _,trivial⟩ | exact ⟨GInt.nro _,trivial⟩ | exact ⟨GString.nro _,trivial⟩),?_⟩ | refine ⟨[.ro,.ro,.ro],.bool _,[none,none,none],spec_l1In o.reg 0 7,(by first | exact trivial | exact ⟨trivial,trivial⟩ | exact ⟨GByte.nro _,trivial⟩ | exact ⟨GExpr.noRo_ow _,trivial⟩ | exact ⟨GExpr.nro _,trivial⟩ | exact ⟨GInt.nro _,trivial⟩ | exact ⟨GString.nro _,trivial⟩),?_⟩ | refine ⟨[.ro,.ro,.ro],.bool _,[none,none,none],spec_l1In o.x 0 65535,(by first | exact trivial | exact ⟨trivial,trivial⟩ | exact ⟨GByte.nro _,trivial⟩ | exact ⟨GExpr.noRo_ow _,trivial⟩ | exact ⟨GExpr.nro _,trivial⟩ | exact ⟨GInt.nro _,trivial⟩ | exact ⟨GString.nro _,trivial⟩),?_⟩ | refine ⟨[.ro],.bool _,[none],spec_HasX o,(by first | exact trivial | exact ⟨trivial,trivial⟩ | exact ⟨GByte.nro _,trivial⟩ | exact ⟨GExpr.noRo_ow _,trivial⟩ | exact ⟨GExpr.nro _,trivial⟩ | exact ⟨GInt.nro _,trivial⟩ | exact ⟨GString.nro _,trivial⟩),?_⟩ | fail)
 all_goals simp_all[opdE]
theorem spec_l3Zero (o:GOpd):Con 349 [.agg (GOpd.ro o)] (.bool (zB o)) [none]:=by
 refine con Tryz.func349 ?_
 exact ⟨.of_eq (congrArg AV.bool (by simp[zB])),trivial⟩
def insE (x:GIns):Bool:=if inI x.op 1 6=true then opdE x.src&&(opdE x.dst&&decide (x.n=0)) else if inI x.op 7 14=true then zB x.src&&(opdE x.dst&&decide (x.n=0))
 else if x.op=15 then zB x.src&&(opdE x.dst&&inI x.n 0 7) else if zB x.src=false then false else if zB x.dst=false then false else if x.op=16 then inI x.n 0 7 else if inI x.op 17 21=true then inI x.n (-128) 127 else if x.op=22 then decide (x.n=0) else if x.op=23 then inI x.n 0 255 else false
theorem spec_InsOk (x:GIns):Con 334 [.agg (GIns.ro x)] (.bool (insE x)) [none]:=by
 refine con Tryz.func334 ?_
 repeat' (first | refine And.intro (fun (h:_=true)=>?_) (fun (h:_=false)=>?_) | refine And.intro (fun (h:_=false)=>?_) (fun (h:_=true)=>?_) | refine And.intro (show regOk _ _=true from by kernel_rfl) ?_ | refine And.intro (Sim.of_eq (congrArg AV.bool ?_)) trivial | refine ⟨[.ro,.ro,.ro],.bool _,[none,none,none],spec_l1In x.op 1 6,(by first | exact trivial | exact ⟨trivial,trivial⟩ | exact ⟨GByte.nro _,trivial⟩ | exact ⟨GExpr.noRo_ow _,trivial⟩ | exact ⟨GExpr.nro _,trivial⟩ | exact ⟨GInt.nro _,trivial⟩ | exact ⟨GString.nro _,trivial⟩),?_⟩ | refine ⟨[.ro,.ro,.ro],.bool _,[none,none,none],spec_l1In x.op 7 14,(by first | exact trivial | exact ⟨trivial,trivial⟩ | exact ⟨GByte.nro _,trivial⟩ | exact ⟨GExpr.noRo_ow _,trivial⟩ | exact ⟨GExpr.nro _,trivial⟩ | exact ⟨GInt.nro _,trivial⟩ | exact ⟨GString.nro _,trivial⟩),?_⟩ | refine ⟨[.ro,.ro,.ro],.bool _,[none,none,none],spec_l1In x.op 17 21,(by first | exact trivial | exact ⟨trivial,trivial⟩ | exact ⟨GByte.nro _,trivial⟩ | exact ⟨GExpr.noRo_ow _,trivial⟩ | exact ⟨GExpr.nro _,trivial⟩ | exact ⟨GInt.nro _,trivial⟩ | exact ⟨GString.nro _,trivial⟩),?_⟩ | refine ⟨[.ro,.ro,.ro],.bool _,[none,none,none],spec_l1In x.n 0 7,(by first | exact trivial | exact ⟨trivial,trivial⟩ | exact ⟨GByte.nro _,trivial⟩ | exact ⟨GExpr.noRo_ow _,trivial⟩ | exact ⟨GExpr.nro _,trivial⟩ | exact ⟨GInt.nro _,trivial⟩ | exact ⟨GString.nro _,trivial⟩),?_⟩ | refine ⟨[.ro,.ro,.ro],.bool _,[none,none,none],spec_l1In x.n (-128) 127,(by first | exact trivial | exact ⟨trivial,trivial⟩ | exact ⟨GByte.nro _,trivial⟩ | exact ⟨GExpr.noRo_ow _,trivial⟩ | exact ⟨GExpr.nro _,trivial⟩ | exact ⟨GInt.nro _,trivial⟩ | exact ⟨GString.nro _,trivial⟩),?_⟩ | refine ⟨[.ro,.ro,.ro],.bool _,[none,none,none],spec_l1In x.n 0 255,(by first | exact trivial | exact ⟨trivial,trivial⟩ | exact ⟨GByte.nro _,trivial⟩ | exact ⟨GExpr.noRo_ow _,trivial⟩ | exact ⟨GExpr.nro _,trivial⟩ | exact ⟨GInt.nro _,trivial⟩ | exact ⟨GString.nro _,trivial⟩),?_⟩ | refine ⟨[.ro],.bool _,[none],spec_OpdOk x.src,(by first | exact trivial | exact ⟨trivial,trivial⟩ | exact ⟨GByte.nro _,trivial⟩ | exact ⟨GExpr.noRo_ow _,trivial⟩ | exact ⟨GExpr.nro _,trivial⟩ | exact ⟨GInt.nro _,trivial⟩ | exact ⟨GString.nro _,trivial⟩),?_⟩ | refine ⟨[.ro],.bool _,[none],spec_OpdOk x.dst,(by first | exact trivial | exact ⟨trivial,trivial⟩ | exact ⟨GByte.nro _,trivial⟩ | exact ⟨GExpr.noRo_ow _,trivial⟩ | exact ⟨GExpr.nro _,trivial⟩ | exact ⟨GInt.nro _,trivial⟩ | exact ⟨GString.nro _,trivial⟩),?_⟩ | refine ⟨[.ro],.bool _,[none],spec_l3Zero x.src,(by first | exact trivial | exact ⟨trivial,trivial⟩ | exact ⟨GByte.nro _,trivial⟩ | exact ⟨GExpr.noRo_ow _,trivial⟩ | exact ⟨GExpr.nro _,trivial⟩ | exact ⟨GInt.nro _,trivial⟩ | exact ⟨GString.nro _,trivial⟩),?_⟩ | refine ⟨[.ro],.bool _,[none],spec_l3Zero x.dst,(by first | exact trivial | exact ⟨trivial,trivial⟩ | exact ⟨GByte.nro _,trivial⟩ | exact ⟨GExpr.noRo_ow _,trivial⟩ | exact ⟨GExpr.nro _,trivial⟩ | exact ⟨GInt.nro _,trivial⟩ | exact ⟨GString.nro _,trivial⟩),?_⟩ | fail)
 all_goals simp_all[insE]
def baseL:List Int:=[0,4096,8192,16384,20480,24576,57344,2560,2688,2752,2816,3008,3200,3264,64,2048,128,256,512,768,1024,1280,0,34816]
def baseV (op:Int):Int:=baseL.getD op.toNat 0
theorem base_row (op:Int) (h0:0≤op) (h1:op < 24):(GInt.ros baseL)[op.toNat]?=some [.int .i64 (baseV op)]:=by
 have hl:baseL.length=24:=rfl
 rw[map_get baseL op.toNat (by omega),baseV,List.getD_eq_getElem?_getD,List.getElem?_eq_getElem (by omega)]
 rfl
theorem spec_l4Base (op:Int) (h0:0≤op) (h1:op < 24):Con 335 [.int .i64 op] (.int .i64 (baseV op)) [none]:=by
 refine con Tryz.func335 ?_
 exact ⟨h0,h1,_,base_row op h0 h1,.refl _,trivial⟩
end Go.Proofs.VI
