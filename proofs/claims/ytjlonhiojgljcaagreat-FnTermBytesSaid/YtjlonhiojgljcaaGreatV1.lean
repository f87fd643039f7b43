/- Contracts of functions, and what they rest on: l08encs. -/
import Derived.Test.YtjlonhiojgljcaaGreatM1
import Derived.Test.YtjlonhiojgljcaaGreatF2
set_option linter.unusedVariables false
set_option linter.unusedSimpArgs false
set_option maxRecDepth 10000
set_option maxHeartbeats 4000000
namespace Go.Proofs.VI
open Go
def sixV (o:GOpd):Int:=IntKind.wrap .i64 (IntKind.wrap .i64 (o.mode*8)+o.reg)
def codeS (x:GIns):Int:=
 if x.op≤6 then IntKind.wrap .i64 (IntKind.wrap .i64 (baseV x.op+IntKind.wrap .i64 (sixV x.src*64))+sixV x.dst)
 else if x.op≤14 then IntKind.wrap .i64 (baseV x.op+sixV x.dst)
 else if x.op=15 then IntKind.wrap .i64 (IntKind.wrap .i64 (baseV x.op+IntKind.wrap .i64 (x.n*64))+sixV x.dst)
 else if (decide (x.op=16)||decide (x.op=23))=true then IntKind.wrap .i64 (baseV x.op+x.n)
 else if x.op≤21 then IntKind.wrap .i64 (baseV x.op+bitsI .and .i64 x.n 255) else baseV x.op
def encS (x:GIns):List Int:=if insE x=true then codeS x::((if (decide (x.op≤6)&&hasX x.src)=true then [x.src.x] else [])++if (decide (x.op≤15)&&hasX x.dst)=true then [x.dst.x] else []) else []
theorem insE_facts {x:GIns} (h:insE x=true):(1≤x.op∧x.op≤23)∧(x.op≤6→opdE x.src=true)∧(x.op≤15→opdE x.dst=true)∧(x.op=15∨x.op=16→0≤x.n∧x.n≤7)∧(x.op=23→0≤x.n∧x.n≤255):=by
 unfold insE at h
 split at h
 ·rename_i g
  simp only[Bool.and_eq_true] at h
  have:=inI_true.1 g
  exact ⟨by omega,fun _=>h.1,fun _=>h.2.1,fun _=>by omega,fun _=>by omega⟩
 split at h
 ·rename_i g
  simp only[Bool.and_eq_true] at h
  have:=inI_true.1 g
  exact ⟨by omega,fun _=>by omega,fun _=>h.2.1,fun _=>by omega,fun _=>by omega⟩
 split at h
 ·rename_i g
  simp only[Bool.and_eq_true] at h
  have:=inI_true.1 h.2.2
  exact ⟨by omega,fun _=>by omega,fun _=>h.2.1,fun _=>by omega,fun _=>by omega⟩
 split at h
 ·cases h
 split at h
 ·cases h
 split at h
 ·rename_i g
  have:=inI_true.1 h
  exact ⟨by omega,fun _=>by omega,fun _=>by omega,fun _=>by omega,fun _=>by omega⟩
 split at h
 ·rename_i g
  have:=inI_true.1 g
  exact ⟨by omega,fun _=>by omega,fun _=>by omega,fun _=>by omega,fun _=>by omega⟩
 split at h
 ·rename_i g
  exact ⟨by omega,fun _=>by omega,fun _=>by omega,fun _=>by omega,fun _=>by omega⟩
 split at h
 ·rename_i g
  have:=inI_true.1 h
  exact ⟨by omega,fun _=>by omega,fun _=>by omega,fun _=>by omega,fun _=>by omega⟩
 ·cases h
theorem spec_l4Six (o:GOpd):Con 336 [.agg (GOpd.ro o)] (.int .i64 (sixV o)) [none]:=by
 refine con Tryz.func336 ?_
 exact ⟨.refl _,trivial⟩
theorem spec_Encode (x:GIns):Con 324 [.agg (GIns.ro x)] (.ow 1 (GInt.ows (encS x))) [none]:=by
 have cI:=spec_InsOk x
 cases hi:insE x with
 | false=>
  rw[hi] at cI
  have e:encS x=[]:=by rw[encS,if_neg (by rw[hi];decide)]
  rw[e]
  refine con Tryz.func324 ?_
  repeat' (first | (exfalso;simp at h;done) | refine And.intro (fun (h:_=true)=>?_) (fun (h:_=false)=>?_) | refine And.intro (fun (h:_=false)=>?_) (fun (h:_=true)=>?_) | refine And.intro (show regOk _ _=true from by kernel_rfl) ?_ | refine ⟨[.ro],.bool false,[none],cI,trivial,?_⟩ | refine And.intro (Sim.of_eq (congrArg (AV.ow 1) ?_)) trivial | fail)
  all_goals rfl
 | true=>
  rw[hi] at cI
  obtain ⟨⟨h1,h2⟩,_⟩:=insE_facts hi
  refine con Tryz.func324 ?_
  repeat' (first | (exfalso;simp at h;done) | refine And.intro (fun (h:_=true)=>?_) (fun (h:_=false)=>?_) | refine And.intro (fun (h:_=false)=>?_) (fun (h:_=true)=>?_) | refine And.intro (show regOk _ _=true from by kernel_rfl) ?_ | refine ⟨[.ro],.bool true,[none],cI,trivial,?_⟩ | refine ⟨[.ro],.int .i64 _,[none],spec_l4Base x.op (by omega) (by omega),(by first | exact trivial | exact ⟨trivial,trivial⟩ | exact ⟨GByte.nro _,trivial⟩ | exact ⟨GExpr.noRo_ow _,trivial⟩ | exact ⟨GExpr.nro _,trivial⟩ | exact ⟨GInt.nro _,trivial⟩ | exact ⟨GString.nro _,trivial⟩),?_⟩ | refine ⟨[.ro],.int .i64 _,[none],spec_l4Six x.src,(by first | exact trivial | exact ⟨trivial,trivial⟩ | exact ⟨GByte.nro _,trivial⟩ | exact ⟨GExpr.noRo_ow _,trivial⟩ | exact ⟨GExpr.nro _,trivial⟩ | exact ⟨GInt.nro _,trivial⟩ | exact ⟨GString.nro _,trivial⟩),?_⟩ | refine ⟨[.ro],.int .i64 _,[none],spec_l4Six x.dst,(by first | exact trivial | exact ⟨trivial,trivial⟩ | exact ⟨GByte.nro _,trivial⟩ | exact ⟨GExpr.noRo_ow _,trivial⟩ | exact ⟨GExpr.nro _,trivial⟩ | exact ⟨GInt.nro _,trivial⟩ | exact ⟨GString.nro _,trivial⟩),?_⟩ | refine ⟨[.ro],.bool _,[none],spec_HasX x.src,(by first | exact trivial | exact ⟨trivial,trivial⟩ | exact ⟨GByte.nro _,trivial⟩ | exact ⟨GExpr.noRo_ow _,trivial⟩ | exact ⟨GExpr.nro _,trivial⟩ | exact ⟨GInt.nro _,trivial⟩ | exact ⟨GString.nro _,trivial⟩),?_⟩ | refine ⟨[.ro],.bool _,[none],spec_HasX x.dst,(by first | exact trivial | exact ⟨trivial,trivial⟩ | exact ⟨GByte.nro _,trivial⟩ | exact ⟨GExpr.noRo_ow _,trivial⟩ | exact ⟨GExpr.nro _,trivial⟩ | exact ⟨GInt.nro _,trivial⟩ | exact ⟨GString.nro _,trivial⟩),?_⟩ | refine ⟨trivial,Nat.le_of_ble_eq_true rfl,⟨⟨trivial,trivial⟩,trivial⟩,?_⟩ | refine And.intro (Sim.of_eq (congrArg (AV.ow 1) ?_)) trivial | fail)
  all_goals clear cI
  all_goals (have ho:¬ (x.op≤6)∨x.op≤15:=by omega)
  all_goals simp_all[encS,codeS,GInt.ro]
  all_goals omega
end Go.Proofs.VI
