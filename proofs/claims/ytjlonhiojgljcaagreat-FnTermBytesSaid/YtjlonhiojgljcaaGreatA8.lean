/- Contracts of functions, and what they rest on: l12ok. -/
import Derived.Test.YtjlonhiojgljcaaGreatA3
set_option linter.unusedVariables false
set_option linter.unusedSimpArgs false
set_option maxRecDepth 10000
set_option maxHeartbeats 4000000
namespace Go.Proofs.VI
open Go
def noneA (a:GArg):Bool:=decide (a.form=0)&&(decide (a.reg=0)&&zeroE a.e)
def plainL (l:List GExpr):Bool:=l.all fun e=>okE e 1 true
def emptyL (l:List GExpr):Bool:=decide ((l.length:Int)=0)
def oneL (l:List GExpr):Bool:=decide ((l.length:Int)=1)
def insLE (x:GLine):Bool:=
 if inI x.op 1 6=true then argE x.src&&(argE x.dst&&(decide (x.n=0)&&emptyL x.l))
 else if inI x.op 7 14=true then noneA x.src&&(argE x.dst&&(decide (x.n=0)&&emptyL x.l))
 else if x.op=15 then noneA x.src&&(argE x.dst&&(inI x.n 0 7&&emptyL x.l))
 else if (!noneA x.src||!noneA x.dst)=true then false
 else if x.op=16 then inI x.n 0 7&&emptyL x.l
 else if x.op=22 then decide (x.n=0)&&emptyL x.l
 else if (inI x.op 17 21||decide (x.op=23))=true then decide (x.n=0)&&(oneL x.l&&plainL x.l)
 else false
def lineE (x:GLine):Bool:=
 if x.k=3 then decide (x.s=⟨#[]⟩)&&insLE x
 else if (!decide (x.op=0)||!noneA x.src||!noneA x.dst)=true then false
 else if x.k=0∨x.k=8 then decide (x.s=⟨#[]⟩)&&(decide (x.n=0)&&emptyL x.l)
 else if x.k=1 then isNm x.s&&(decide (x.n=0)&&emptyL x.l)
 else if x.k=2 then isNm x.s&&(decide (x.n=0)&&(oneL x.l&&plainL x.l))
 else if x.k=4 then decide (x.s=⟨#[]⟩)&&(decide (x.n=0)&&(inI x.l.length 1 6&&plainL x.l))
 else if x.k=5 then decide (x.s=⟨#[]⟩)&&(decide (x.n=0)&&(oneL x.l&&plainL x.l))
 else if x.k=6 then isNm x.s&&(inI x.n 0 1&&emptyL x.l)
 else if x.k=7 then decide (x.s=⟨#[]⟩)&&(decide (x.n=0)&&(inI x.l.length 1 6&&(plainL x.l&&x.l.all fun e=>decide (e.k=2))))
 else false
theorem op_cases (op:Int):
  (inI op 1 6=true∧inI op 7 14=false∧op≠15∧op≠16∧inI op 17 21=false∧op≠22∧op≠23∧inI op 1 15=true∧inI op 1 23=true)∨
  (inI op 1 6=false∧inI op 7 14=true∧op≠15∧op≠16∧inI op 17 21=false∧op≠22∧op≠23∧inI op 1 15=true∧inI op 1 23=true)∨
  (inI op 1 6=false∧inI op 7 14=false∧op=15∧op≠16∧inI op 17 21=false∧op≠22∧op≠23∧inI op 1 15=true∧inI op 1 23=true)∨
  (inI op 1 6=false∧inI op 7 14=false∧op≠15∧op=16∧inI op 17 21=false∧op≠22∧op≠23∧inI op 1 15=false∧inI op 1 23=true)∨
  (inI op 1 6=false∧inI op 7 14=false∧op≠15∧op≠16∧inI op 17 21=true∧op≠22∧op≠23∧inI op 1 15=false∧inI op 1 23=true)∨
  (inI op 1 6=false∧inI op 7 14=false∧op≠15∧op≠16∧inI op 17 21=false∧op=22∧op≠23∧inI op 1 15=false∧inI op 1 23=true)∨
  (inI op 1 6=false∧inI op 7 14=false∧op≠15∧op≠16∧inI op 17 21=false∧op≠22∧op=23∧inI op 1 15=false∧inI op 1 23=true)∨
  (inI op 1 6=false∧inI op 7 14=false∧op≠15∧op≠16∧inI op 17 21=false∧op≠22∧op≠23∧inI op 1 15=false∧inI op 1 23=false):=by
 by_cases c0:1≤op∧op≤6
 ·exact .inl ⟨(by first | exact inI_true.2 (by omega) | exact inI_false.2 (by omega) | omega),(by first | exact inI_true.2 (by omega) | exact inI_false.2 (by omega) | omega),(by first | exact inI_true.2 (by omega) | exact inI_false.2 (by omega) | omega),(by first | exact inI_true.2 (by omega) | exact inI_false.2 (by omega) | omega),(by first | exact inI_true.2 (by omega) | exact inI_false.2 (by omega) | omega),(by first | exact inI_true.2 (by omega) | exact inI_false.2 (by omega) | omega),(by first | exact inI_true.2 (by omega) | exact inI_false.2 (by omega) | omega),(by first | exact inI_true.2 (by omega) | exact inI_false.2 (by omega) | omega),(by first | exact inI_true.2 (by omega) | exact inI_false.2 (by omega) | omega)⟩
 by_cases c1:7≤op∧op≤14
 ·exact .inr (.inl ⟨(by first | exact inI_true.2 (by omega) | exact inI_false.2 (by omega) | omega),(by first | exact inI_true.2 (by omega) | exact inI_false.2 (by omega) | omega),(by first | exact inI_true.2 (by omega) | exact inI_false.2 (by omega) | omega),(by first | exact inI_true.2 (by omega) | exact inI_false.2 (by omega) | omega),(by first | exact inI_true.2 (by omega) | exact inI_false.2 (by omega) | omega),(by first | exact inI_true.2 (by omega) | exact inI_false.2 (by omega) | omega),(by first | exact inI_true.2 (by omega) | exact inI_false.2 (by omega) | omega),(by first | exact inI_true.2 (by omega) | exact inI_false.2 (by omega) | omega),(by first | exact inI_true.2 (by omega) | exact inI_false.2 (by omega) | omega)⟩)
 by_cases c2:op=15
 ·exact .inr (.inr (.inl ⟨(by first | exact inI_true.2 (by omega) | exact inI_false.2 (by omega) | omega),(by first | exact inI_true.2 (by omega) | exact inI_false.2 (by omega) | omega),(by first | exact inI_true.2 (by omega) | exact inI_false.2 (by omega) | omega),(by first | exact inI_true.2 (by omega) | exact inI_false.2 (by omega) | omega),(by first | exact inI_true.2 (by omega) | exact inI_false.2 (by omega) | omega),(by first | exact inI_true.2 (by omega) | exact inI_false.2 (by omega) | omega),(by first | exact inI_true.2 (by omega) | exact inI_false.2 (by omega) | omega),(by first | exact inI_true.2 (by omega) | exact inI_false.2 (by omega) | omega),(by first | exact inI_true.2 (by omega) | exact inI_false.2 (by omega) | omega)⟩))
 by_cases c3:op=16
 ·exact .inr (.inr (.inr (.inl ⟨(by first | exact inI_true.2 (by omega) | exact inI_false.2 (by omega) | omega),(by first | exact inI_true.2 (by omega) | exact inI_false.2 (by omega) | omega),(by first | exact inI_true.2 (by omega) | exact inI_false.2 (by omega) | omega),(by first | exact inI_true.2 (by omega) | exact inI_false.2 (by omega) | omega),(by first | exact inI_true.2 (by omega) | exact inI_false.2 (by omega) | omega),(by first | exact inI_true.2 (by omega) | exact inI_false.2 (by omega) | omega),(by first | exact inI_true.2 (by omega) | exact inI_false.2 (by omega) | omega),(by first | exact inI_true.2 (by omega) | exact inI_false.2 (by omega) | omega),(by first | exact inI_true.2 (by omega) | exact inI_false.2 (by omega) | omega)⟩)))
 by_cases c4:17≤op∧op≤21
 ·exact .inr (.inr (.inr (.inr (.inl ⟨(by first | exact inI_true.2 (by omega) | exact inI_false.2 (by omega) | omega),(by first | exact inI_true.2 (by omega) | exact inI_false.2 (by omega) | omega),(by first | exact inI_true.2 (by omega) | exact inI_false.2 (by omega) | omega),(by first | exact inI_true.2 (by omega) | exact inI_false.2 (by omega) | omega),(by first | exact inI_true.2 (by omega) | exact inI_false.2 (by omega) | omega),(by first | exact inI_true.2 (by omega) | exact inI_false.2 (by omega) | omega),(by first | exact inI_true.2 (by omega) | exact inI_false.2 (by omega) | omega),(by first | exact inI_true.2 (by omega) | exact inI_false.2 (by omega) | omega),(by first | exact inI_true.2 (by omega) | exact inI_false.2 (by omega) | omega)⟩))))
 by_cases c5:op=22
 ·exact .inr (.inr (.inr (.inr (.inr (.inl ⟨(by first | exact inI_true.2 (by omega) | exact inI_false.2 (by omega) | omega),(by first | exact inI_true.2 (by omega) | exact inI_false.2 (by omega) | omega),(by first | exact inI_true.2 (by omega) | exact inI_false.2 (by omega) | omega),(by first | exact inI_true.2 (by omega) | exact inI_false.2 (by omega) | omega),(by first | exact inI_true.2 (by omega) | exact inI_false.2 (by omega) | omega),(by first | exact inI_true.2 (by omega) | exact inI_false.2 (by omega) | omega),(by first | exact inI_true.2 (by omega) | exact inI_false.2 (by omega) | omega),(by first | exact inI_true.2 (by omega) | exact inI_false.2 (by omega) | omega),(by first | exact inI_true.2 (by omega) | exact inI_false.2 (by omega) | omega)⟩)))))
 by_cases c6:op=23
 ·exact .inr (.inr (.inr (.inr (.inr (.inr (.inl ⟨(by first | exact inI_true.2 (by omega) | exact inI_false.2 (by omega) | omega),(by first | exact inI_true.2 (by omega) | exact inI_false.2 (by omega) | omega),(by first | exact inI_true.2 (by omega) | exact inI_false.2 (by omega) | omega),(by first | exact inI_true.2 (by omega) | exact inI_false.2 (by omega) | omega),(by first | exact inI_true.2 (by omega) | exact inI_false.2 (by omega) | omega),(by first | exact inI_true.2 (by omega) | exact inI_false.2 (by omega) | omega),(by first | exact inI_true.2 (by omega) | exact inI_false.2 (by omega) | omega),(by first | exact inI_true.2 (by omega) | exact inI_false.2 (by omega) | omega),(by first | exact inI_true.2 (by omega) | exact inI_false.2 (by omega) | omega)⟩))))))
 exact .inr (.inr (.inr (.inr (.inr (.inr (.inr (⟨(by first | exact inI_false.2 (by omega) | omega),(by first | exact inI_false.2 (by omega) | omega),(by first | exact inI_false.2 (by omega) | omega),(by first | exact inI_false.2 (by omega) | omega),(by first | exact inI_false.2 (by omega) | omega),(by first | exact inI_false.2 (by omega) | omega),(by first | exact inI_false.2 (by omega) | omega),(by first | exact inI_false.2 (by omega) | omega),(by first | exact inI_false.2 (by omega) | omega)⟩)))))))
theorem emptyL_nil {l:List GExpr} (h:emptyL l=true):l=[]:=by simp[emptyL] at h;exact h
theorem all_plain {l:List GExpr} {i:Nat} (hi:i < l.length) (h:okE l[i] 1 true=false):plainL l=false:=by
 rw[plainL,List.all_eq_false];exact ⟨_,List.getElem_mem hi,by simp[h]⟩
theorem plain_all {l:List GExpr} (h:∀ j (hj:j < l.length),okE l[j] 1 true=true):plainL l=true:=by
 rw[plainL,List.all_eq_true]
 intro x hx
 obtain ⟨j,hj,rfl⟩:=List.mem_iff_getElem.1 hx
 exact h j hj
theorem spec_l12None (a:GArg):Con 315 [.agg (GArg.ro a)] (.bool (noneA a)) [none]:=by
 refine con Tryz.func315 ?_
 repeat' (first | refine And.intro (fun (h:_=true)=>?_) (fun (h:_=false)=>?_) | refine And.intro (fun (h:_=false)=>?_) (fun (h:_=true)=>?_) | refine And.intro (show regOk _ _=true from by kernel_rfl) ?_ | refine And.intro (Sim.nb ?_) trivial | refine ⟨[.ro],.bool _,[none],spec_l12Zero a.e,(by first | exact trivial | exact ⟨trivial,trivial⟩ | exact ⟨GByte.nro _,trivial⟩ | exact ⟨GExpr.noRo_ow _,trivial⟩ | exact ⟨GExpr.nro _,trivial⟩ | exact ⟨GInt.nro _,trivial⟩ | exact ⟨GString.nro _,trivial⟩),?_⟩ | fail)
 all_goals simp_all[noneA,nb,nbA,nbC,tuple]
theorem spec_l12Plain (l:List GExpr) (hl:l.length≤1099511627776) (hf:∀ e∈l,GExpr.fit e) (ho:∀ e∈l,GExpr.ok e):Con 316 [.ro 4 (GExpr.ros l)] (.bool (plainL l)) [none]:=by
 refine con Tryz.func316 ?_
 have hlen:=ros_len l
 refine ⟨{i:Nat // i≤l.length∧∀ j (hj:j < l.length),j < i→okE l[j] 1 true=true},fun i=>⟨[(0,.ro 4 (GExpr.ros l)),(3,.int .i64 i.1)],[]⟩,fun i=>l.length - i.1,⟨0,by omega,fun j h h2=>absurd h2 (Nat.not_lt_zero _)⟩,?_,?_⟩
 ·exact (by (repeat' (first | exact trivial | (refine And.intro (congrArg (AV.int .i64) (w64 ?_ ?_)) ?_;omega;omega) | refine And.intro rfl ?_ | refine And.intro (SimRows.refl _) ?_ | (refine And.intro (SimRows.of_eq ?_) ?_;(first | assumption | rfl)) | (refine And.intro (congrArg (AV.int .i64) ?_) ?_;(first | assumption | omega)) | fail));done)
 ·rintro ⟨i,hi,ha⟩
  dsimp only
  refine ⟨fun h=>?_,fun h=>⟨.nb (congrArg AV.bool ?_),trivial⟩⟩<;>simp only[hlen,decide_eq_true_eq,decide_eq_false_iff_not] at h
  ·have hi:i < l.length:=by omega
   refine ⟨Int.natCast_nonneg _,_,ros_get _ _ hi,[.ro],.bool (okE l[i] 1 true),[none],spec_PlainOk l[i] (hf _ (List.getElem_mem _)) (ho _ (List.getElem_mem _)),trivial,fun h=>⟨.nb (congrArg AV.bool ?_),trivial⟩,fun h=>?_⟩<;>simp only[Bool.not_eq_true',Bool.not_eq_false'] at h
   ·exact (all_plain hi h).symm
   ·exact ⟨⟨i+1,hi,fun j hj h2=>le_succ (q:=fun j=>∀ hj:j < l.length,okE l[j] 1 true=true) (fun j hj h2=>ha j h2 hj) (fun _=>h) j h2 hj⟩,Nat.sub_succ_lt_self _ _ hi,(by (repeat' (first | exact trivial | (refine And.intro (congrArg (AV.int .i64) (w64 ?_ ?_)) ?_;omega;omega) | refine And.intro rfl ?_ | refine And.intro (SimRows.refl _) ?_ | (refine And.intro (SimRows.of_eq ?_) ?_;(first | assumption | rfl)) | (refine And.intro (congrArg (AV.int .i64) ?_) ?_;(first | assumption | omega)) | fail));done)⟩
  ·exact (plain_all fun j hj=>ha j hj (by omega)).symm
theorem spec_l12Names (l:List GExpr) (hl:l.length≤1099511627776) (hf:∀ e∈l,GExpr.fit e) (ho:∀ e∈l,GExpr.ok e):Con 317 [.ro 4 (GExpr.ros l)] (.bool (inI l.length 1 6&&(plainL l&&l.all fun e=>decide (e.k=2)))) [none]:=by
 refine con Tryz.func317 ?_
 have hlen:=ros_len l
 refine ⟨{i:Nat // i≤l.length∧∀ j (hj:j < l.length),j < i→okE l[j] 1 true=true∧l[j].k=2},fun i=>⟨[(0,.ro 4 (GExpr.ros l)),(3,.int .i64 i.1)],[]⟩,fun i=>l.length - i.1,⟨0,by omega,fun j h h2=>absurd h2 (Nat.not_lt_zero _)⟩,?_,?_⟩
 ·exact (by (repeat' (first | exact trivial | (refine And.intro (congrArg (AV.int .i64) (w64 ?_ ?_)) ?_;omega;omega) | refine And.intro rfl ?_ | refine And.intro (SimRows.refl _) ?_ | (refine And.intro (SimRows.of_eq ?_) ?_;(first | assumption | rfl)) | (refine And.intro (congrArg (AV.int .i64) ?_) ?_;(first | assumption | omega)) | fail));done)
 ·rintro ⟨i,hi,ha⟩
  dsimp only
  refine ⟨fun h=>?_,fun h=>?_⟩<;>simp only[hlen,decide_eq_true_eq,decide_eq_false_iff_not] at h
  ·have hi:i < l.length:=by omega
   clear h
   have hr:=ros_get l i hi
   have hc:=spec_PlainOk l[i] (hf _ (List.getElem_mem _)) (ho _ (List.getElem_mem _))
   have bad:(okE l[i] 1 true&&decide (l[i].k=2))=false→(inI l.length 1 6&&(plainL l&&l.all fun e=>decide (e.k=2)))=false:=fun h=>by
    cases hp:okE l[i] 1 true with
    | false=>rw[all_plain hi hp];simp
    | true=>
     rw[hp,Bool.true_and] at h
     have:(l.all fun e=>decide (e.k=2))=false:=List.all_eq_false.2 ⟨_,List.getElem_mem hi,by simpa using h⟩
     rw[this];simp
   have good:(okE l[i] 1 true&&decide (l[i].k=2))=true→∀ j (hj:j < l.length),j < i+1→okE l[j] 1 true=true∧l[j].k=2:=fun h j hj h2=>le_succ (q:=fun j=>∀ hj:j < l.length,okE l[j] 1 true=true∧l[j].k=2) (fun j hj h2=>ha j h2 hj) (fun _=>by simpa using h) j h2 hj
   clear ha
   repeat' (first | refine And.intro (fun (h:_=true)=>?_) (fun (h:_=false)=>?_) | refine And.intro (fun (h:_=false)=>?_) (fun (h:_=true)=>?_) | refine And.intro (show regOk _ _=true from by kernel_rfl) ?_ | refine ⟨Int.natCast_nonneg _,_,hr,?_⟩ | refine ⟨[.ro],.bool _,[none],hc,trivial,?_⟩ | refine And.intro (Sim.nb (congrArg AV.bool (Eq.symm (bad ?_)))) trivial | (refine ⟨⟨i+1,hi,good ?_⟩,Nat.sub_succ_lt_self _ _ hi,?wk⟩;case wk=>(repeat' (first | exact trivial | (refine And.intro (congrArg (AV.int .i64) (w64 ?_ ?_)) ?_;omega;omega) | refine And.intro rfl ?_ | refine And.intro (SimRows.refl _) ?_ | (refine And.intro (SimRows.of_eq ?_) ?_;(first | assumption | rfl)) | (refine And.intro (congrArg (AV.int .i64) ?_) ?_;(first | assumption | omega)) | fail));done) | fail)
   all_goals clear good bad hr hc hf ho
   all_goals simp_all
  ·refine ⟨[.ro,.ro,.ro],.bool (inI l.length 1 6),[none,none,none],by rw[hlen];exact spec_l1In _ _ _,trivial,.of_eq (congrArg AV.bool ?_),trivial⟩
   have h1:plainL l=true:=plain_all fun j hj=>(ha j hj (by omega)).1
   have h2:(l.all fun e=>decide (e.k=2))=true:=by
    rw[List.all_eq_true]
    intro x hx
    obtain ⟨j,hj,rfl⟩:=List.mem_iff_getElem.1 hx
    exact decide_eq_true (ha j hj (by omega)).2
   rw[h1,h2];simp
theorem spec_l12Ins (x:GLine) (hx:GLine.fit x) (ox:GLine.ok x):Con 314 [.agg (GLine.ro x)] (.bool (insLE x)) [none]:=by
 refine con Tryz.func314 ?_
 have fx:=GLine.fit_un hx
 have gx:=GLine.ok_un ox
 have hs:=spec_ArgOk x.src fx.1 gx.2.2.2.1
 have hd:=spec_ArgOk x.dst fx.2.1 gx.2.2.2.2.1
 have hp:=spec_l12Plain x.l fx.2.2.1 fx.2.2.2 gx.2.2.2.2.2.2.2
 have hlen:=ros_len x.l
 clear fx gx hx ox
 rcases op_cases x.op with ⟨o1,o2,o3,o4,o5,o6,o7,o8,o9⟩ | ⟨o1,o2,o3,o4,o5,o6,o7,o8,o9⟩ | ⟨o1,o2,o3,o4,o5,o6,o7,o8,o9⟩ | ⟨o1,o2,o3,o4,o5,o6,o7,o8,o9⟩ | ⟨o1,o2,o3,o4,o5,o6,o7,o8,o9⟩ | ⟨o1,o2,o3,o4,o5,o6,o7,o8,o9⟩ | ⟨o1,o2,o3,o4,o5,o6,o7,o8,o9⟩ | ⟨o1,o2,o3,o4,o5,o6,o7,o8,o9⟩
 all_goals
  repeat' (first | (exfalso;simp[o1,o2,o3,o4,o5,o6,o7,o8,o9] at h;done) | refine And.intro (fun (h:_=true)=>?_) (fun (h:_=false)=>?_) | refine And.intro (fun (h:_=false)=>?_) (fun (h:_=true)=>?_) | refine And.intro (show regOk _ _=true from by kernel_rfl) ?_ | refine And.intro (Sim.nb ?_) trivial | refine ⟨[.ro,.ro,.ro],.bool _,[none,none,none],spec_l1In _ _ _,(by first | exact trivial | exact ⟨trivial,trivial⟩ | exact ⟨GByte.nro _,trivial⟩ | exact ⟨GExpr.noRo_ow _,trivial⟩ | exact ⟨GExpr.nro _,trivial⟩ | exact ⟨GInt.nro _,trivial⟩ | exact ⟨GString.nro _,trivial⟩),?_⟩ | refine ⟨[.ro],.bool _,[none],spec_l12None x.src,(by first | exact trivial | exact ⟨trivial,trivial⟩ | exact ⟨GByte.nro _,trivial⟩ | exact ⟨GExpr.noRo_ow _,trivial⟩ | exact ⟨GExpr.nro _,trivial⟩ | exact ⟨GInt.nro _,trivial⟩ | exact ⟨GString.nro _,trivial⟩),?_⟩ | refine ⟨[.ro],.bool _,[none],spec_l12None x.dst,(by first | exact trivial | exact ⟨trivial,trivial⟩ | exact ⟨GByte.nro _,trivial⟩ | exact ⟨GExpr.noRo_ow _,trivial⟩ | exact ⟨GExpr.nro _,trivial⟩ | exact ⟨GInt.nro _,trivial⟩ | exact ⟨GString.nro _,trivial⟩),?_⟩ | refine ⟨[.ro],.bool _,[none],hs,trivial,?_⟩ | refine ⟨[.ro],.bool _,[none],hd,trivial,?_⟩ | refine ⟨[.ro],.bool _,[none],hp,trivial,?_⟩ | fail)
 all_goals clear hs hd hp
 all_goals simp_all[insLE,nb,nbA,nbC,tuple,emptyL,oneL]
theorem spec_LineOk (x:GLine) (hx:GLine.fit x) (ox:GLine.ok x):Con 298 [.agg (GLine.ro x)] (.bool (lineE x)) [none]:=by
 refine con Tryz.func298 ?_
 have fx:=GLine.fit_un hx
 have gx:=GLine.ok_un ox
 have hi:=spec_l12Ins x hx ox
 have hn:=spec_l9Name x.s gx.2.1
 have hp:=spec_l12Plain x.l fx.2.2.1 fx.2.2.2 gx.2.2.2.2.2.2.2
 have hm:=spec_l12Names x.l fx.2.2.1 fx.2.2.2 gx.2.2.2.2.2.2.2
 have hlen:=ros_len x.l
 clear fx gx hx ox
 have key:∀ k:Int,k=0∨k=1∨k=2∨k=3∨k=4∨k=5∨k=6∨k=7∨k=8∨(k≠0∧k≠1∧k≠2∧k≠3∧k≠4∧k≠5∧k≠6∧k≠7∧k≠8):=fun k=>by omega
 rcases key x.k with hK | hK | hK | hK | hK | hK | hK | hK | hK | hK
 all_goals
  repeat' (first | (exfalso;simp[hK] at h;done) | refine And.intro (fun (h:_=true)=>?_) (fun (h:_=false)=>?_) | refine And.intro (fun (h:_=false)=>?_) (fun (h:_=true)=>?_) | refine And.intro (show regOk _ _=true from by kernel_rfl) ?_ | refine And.intro (Sim.nb ?_) trivial | refine ⟨[.ro,.ro,.ro],.bool _,[none,none,none],spec_l1In _ _ _,(by first | exact trivial | exact ⟨trivial,trivial⟩ | exact ⟨GByte.nro _,trivial⟩ | exact ⟨GExpr.noRo_ow _,trivial⟩ | exact ⟨GExpr.nro _,trivial⟩ | exact ⟨GInt.nro _,trivial⟩ | exact ⟨GString.nro _,trivial⟩),?_⟩ | refine ⟨[.ro],.bool _,[none],spec_l12None x.src,(by first | exact trivial | exact ⟨trivial,trivial⟩ | exact ⟨GByte.nro _,trivial⟩ | exact ⟨GExpr.noRo_ow _,trivial⟩ | exact ⟨GExpr.nro _,trivial⟩ | exact ⟨GInt.nro _,trivial⟩ | exact ⟨GString.nro _,trivial⟩),?_⟩ | refine ⟨[.ro],.bool _,[none],spec_l12None x.dst,(by first | exact trivial | exact ⟨trivial,trivial⟩ | exact ⟨GByte.nro _,trivial⟩ | exact ⟨GExpr.noRo_ow _,trivial⟩ | exact ⟨GExpr.nro _,trivial⟩ | exact ⟨GInt.nro _,trivial⟩ | exact ⟨GString.nro _,trivial⟩),?_⟩ | refine ⟨[.ro],.bool _,[none],hi,trivial,?_⟩ | refine ⟨[.ro],.bool _,[none],hn,trivial,?_⟩ | refine ⟨[.ro],.bool _,[none],hp,trivial,?_⟩ | refine ⟨[.ro],.bool _,[none],hm,trivial,?_⟩ | fail)
 all_goals clear hi hn hp hm key
 all_goals simp_all[lineE,nb,nbA,nbC,tuple,emptyL,oneL]
end Go.Proofs.VI
