/- Contracts of functions, and what they rest on: l10ok. -/
import Derived.Test.YtjlonhiojgljcaaGreatB2
import Derived.Test.YtjlonhiojgljcaaGreatB3
set_option linter.unusedVariables false
set_option linter.unusedSimpArgs false
set_option maxRecDepth 10000
set_option maxHeartbeats 4000000
namespace Go.Proofs.VI
open Go
def zeroE (a:GExpr):Bool:=decide (a.k=0)&&(decide (a.n=0)&&(decide (a.s=⟨#[]⟩)&&decide ((a.l.length:Int)=0)))
def hereE (a:GExpr):Bool:=
 if a.k≠1∧a.k≠11∧a.n≠0 then false else if a.k≠2∧a.k≠12∧a.s≠⟨#[]⟩ then false
 else if a.k=1 then inI a.n 0 65535&&decide ((a.l.length:Int)=0) else if a.k=2∨a.k=12 then isNm a.s&&decide ((a.l.length:Int)=0)
 else if a.k=3 then decide ((a.l.length:Int)=0) else if a.k=4 then decide ((a.l.length:Int)=1)
 else if a.k=5∨a.k=6∨a.k=7∨a.k=8∨a.k=9∨a.k=10 then decide ((a.l.length:Int)=2)
 else if a.k=11 then inI a.n 0 9&&decide ((a.l.length:Int)=0) else false
theorem spec_l12Zero (a:GExpr):Con 331 [.agg (GExpr.ro a)] (.bool (zeroE a)) [none]:=by
 refine con Tryz.func331 ?_
 have la:=ros_len a.l
 refine ⟨fun h=>?_,fun h=>⟨.of_eq (congrArg AV.bool ?_),trivial⟩⟩
 rotate_left
 ·rw[zeroE,h];rfl
 refine ⟨fun h2=>?_,fun h2=>⟨.of_eq (congrArg AV.bool ?_),trivial⟩⟩
 rotate_left
 ·rw[zeroE,h,h2];rfl
 refine ⟨fun h3=>⟨.of_eq (congrArg AV.bool ?_),trivial⟩,fun h3=>⟨.of_eq (congrArg AV.bool ?_),trivial⟩⟩
 ·rw[zeroE,h,h2,h3,la];rfl
 ·rw[zeroE,h,h2,h3];rfl
theorem join {R A:Prop} (main:R→A) (h:R):A:=main h
def goodE (k n:Int) (s:ByteArray):Prop:=¬ (k≠1∧k≠11∧n≠0)∧¬ (k≠2∧k≠12∧s≠⟨#[]⟩)
theorem spec_l10Here (a:GExpr) (hs:a.s.size≤9223372036854775807):Con 179 [.agg (GExpr.ro a)] (.bool (hereE a)) [none]:=by
 refine conC (fun i=>Nat.beq i 4) Tryz.func179 ?_
 have la:=ros_len a.l
 apply join
 ·intro J
  have la':(AV.int .i64 ((GExpr.ros a.l).length:Int))= .int .i64 a.l.length:=by rw[la]
  refine ⟨fun h1=>⟨fun h2=>⟨fun h3=>?_,fun h3=>⟨.of_eq (congrArg AV.bool ?_),trivial⟩⟩,fun h2=>?_⟩,fun h1=>?_⟩
  ·refine ⟨fun g1=>⟨fun g2=>⟨fun g3=>⟨.of_eq (congrArg AV.bool ?_),trivial⟩,fun g3=>⟨{u:Unit // goodE a.k a.n a.s},fun _=>⟨[(1,.ptr 0 0 0),(3,.int .i64 a.l.length)],[(0,.box (GExpr.ro a) [])]⟩,⟨(),?_⟩,⟨rfl,rfl,la',.refl _,trivial⟩,J⟩⟩,fun g2=>⟨{u:Unit // goodE a.k a.n a.s},fun _=>⟨[(1,.ptr 0 0 0),(3,.int .i64 a.l.length)],[(0,.box (GExpr.ro a) [])]⟩,⟨(),?_⟩,⟨rfl,rfl,la',.refl _,trivial⟩,J⟩⟩,fun g1=>⟨{u:Unit // goodE a.k a.n a.s},fun _=>⟨[(1,.ptr 0 0 0),(3,.int .i64 a.l.length)],[(0,.box (GExpr.ro a) [])]⟩,⟨(),?_⟩,⟨rfl,rfl,la',.refl _,trivial⟩,J⟩⟩
   all_goals clear J la'
   all_goals simp_all[goodE,hereE]
  ·clear J la'
   simp_all[hereE]
  ·refine ⟨fun g1=>⟨fun g2=>⟨fun g3=>⟨.of_eq (congrArg AV.bool ?_),trivial⟩,fun g3=>⟨{u:Unit // goodE a.k a.n a.s},fun _=>⟨[(1,.ptr 0 0 0),(3,.int .i64 a.l.length)],[(0,.box (GExpr.ro a) [])]⟩,⟨(),?_⟩,⟨rfl,rfl,la',.refl _,trivial⟩,J⟩⟩,fun g2=>⟨{u:Unit // goodE a.k a.n a.s},fun _=>⟨[(1,.ptr 0 0 0),(3,.int .i64 a.l.length)],[(0,.box (GExpr.ro a) [])]⟩,⟨(),?_⟩,⟨rfl,rfl,la',.refl _,trivial⟩,J⟩⟩,fun g1=>⟨{u:Unit // goodE a.k a.n a.s},fun _=>⟨[(1,.ptr 0 0 0),(3,.int .i64 a.l.length)],[(0,.box (GExpr.ro a) [])]⟩,⟨(),?_⟩,⟨rfl,rfl,la',.refl _,trivial⟩,J⟩⟩
   all_goals clear J la'
   all_goals simp_all[goodE,hereE]
  ·refine ⟨fun g1=>⟨fun g2=>⟨fun g3=>⟨.of_eq (congrArg AV.bool ?_),trivial⟩,fun g3=>⟨{u:Unit // goodE a.k a.n a.s},fun _=>⟨[(1,.ptr 0 0 0),(3,.int .i64 a.l.length)],[(0,.box (GExpr.ro a) [])]⟩,⟨(),?_⟩,⟨rfl,rfl,la',.refl _,trivial⟩,J⟩⟩,fun g2=>⟨{u:Unit // goodE a.k a.n a.s},fun _=>⟨[(1,.ptr 0 0 0),(3,.int .i64 a.l.length)],[(0,.box (GExpr.ro a) [])]⟩,⟨(),?_⟩,⟨rfl,rfl,la',.refl _,trivial⟩,J⟩⟩,fun g1=>⟨{u:Unit // goodE a.k a.n a.s},fun _=>⟨[(1,.ptr 0 0 0),(3,.int .i64 a.l.length)],[(0,.box (GExpr.ro a) [])]⟩,⟨(),?_⟩,⟨rfl,rfl,la',.refl _,trivial⟩,J⟩⟩
   all_goals clear J la'
   all_goals simp_all[goodE,hereE]
 ·rintro ⟨_,hg⟩
  dsimp only
  have e:hereE a=(if a.k=1 then inI a.n 0 65535&&decide ((a.l.length:Int)=0) else if a.k=2∨a.k=12 then isNm a.s&&decide ((a.l.length:Int)=0)
   else if a.k=3 then decide ((a.l.length:Int)=0) else if a.k=4 then decide ((a.l.length:Int)=1)
   else if a.k=5∨a.k=6∨a.k=7∨a.k=8∨a.k=9∨a.k=10 then decide ((a.l.length:Int)=2)
   else if a.k=11 then inI a.n 0 9&&decide ((a.l.length:Int)=0) else false):=by rw[hereE,if_neg hg.1,if_neg hg.2]
  rw[e]
  clear e hg
  refine ⟨fun s1=>⟨[.ro,.ro,.ro],.bool (inI a.n 0 65535),[none,none,none],spec_l1In _ _ _,trivial,fun b=>⟨.of_eq (congrArg AV.bool ?_),trivial⟩,fun b=>⟨.of_eq (congrArg AV.bool ?_),trivial⟩⟩,fun s1=>⟨fun s2=>⟨[.ro],.bool (isNm a.s),[none],spec_l9Name _ hs,trivial,fun b=>⟨.of_eq (congrArg AV.bool ?_),trivial⟩,fun b=>⟨.of_eq (congrArg AV.bool ?_),trivial⟩⟩,fun s2=>⟨fun s12=>⟨[.ro],.bool (isNm a.s),[none],spec_l9Name _ hs,trivial,fun b=>⟨.of_eq (congrArg AV.bool ?_),trivial⟩,fun b=>⟨.of_eq (congrArg AV.bool ?_),trivial⟩⟩,fun s12=>⟨fun s3=>⟨.of_eq (congrArg AV.bool ?_),trivial⟩,fun s3=>⟨fun s4=>⟨.of_eq (congrArg AV.bool ?_),trivial⟩,fun s4=>⟨fun s5=>⟨.of_eq (congrArg AV.bool ?_),trivial⟩,fun s5=>⟨fun s6=>⟨.of_eq (congrArg AV.bool ?_),trivial⟩,fun s6=>⟨fun s7=>⟨.of_eq (congrArg AV.bool ?_),trivial⟩,fun s7=>⟨fun s8=>⟨.of_eq (congrArg AV.bool ?_),trivial⟩,fun s8=>⟨fun s9=>⟨.of_eq (congrArg AV.bool ?_),trivial⟩,fun s9=>⟨fun s10=>⟨.of_eq (congrArg AV.bool ?_),trivial⟩,fun s10=>⟨fun s11=>⟨[.ro,.ro,.ro],.bool (inI a.n 0 9),[none,none,none],spec_l1In _ _ _,trivial,fun b=>⟨.of_eq (congrArg AV.bool ?_),trivial⟩,fun b=>⟨.of_eq (congrArg AV.bool ?_),trivial⟩⟩,fun s11=>⟨.of_eq (congrArg AV.bool ?_),trivial⟩⟩⟩⟩⟩⟩⟩⟩⟩⟩⟩⟩⟩
  all_goals simp_all
mutual
def okE:GExpr→Int→Bool→Bool
 | .mk k n s l,d,p=>!decide (6 < d)&&(hereE (.mk k n s l)&&(!(p&&(decide (k=11)||decide (k=12)))&&okL l (d+1) p))
def okL:List GExpr→Int→Bool→Bool
 | [],_,_=>true
 | e::l,d,p=>okE e d p&&okL l d p
end
theorem okL_all (l:List GExpr) (d:Int) (p:Bool):okL l d p=l.all fun x=>okE x d p:=by
 induction l with
 | nil=>rfl
 | cons e l ih=>rw[okL,ih];rfl
theorem okE_un (a:GExpr) (d:Int) (p:Bool):okE a d p=(!decide (6 < d)&&(hereE a&&(!(p&&(decide (a.k=11)||decide (a.k=12)))&&a.l.all fun x=>okE x (d+1) p))):=by
 cases a;rw[okE,okL_all];rfl
theorem spec_l10Ok:∀ (a:GExpr) (d:Int) (p:Bool) (fa:GExpr.fit a) (oa:GExpr.ok a) (h0:0≤d) (h1:d≤7),Con 117 [.agg (GExpr.ro a),.int .i64 d,.bool p] (.bool (okE a d p)) [none,none,none]:=by
 refine GExpr.ind fun a ih d p fa oa hd0 hd1=>?_
 have ua:=GExpr.fit_un fa
 have va:=GExpr.ok_un oa
 refine con Tryz.func117 ?_
 have la:=ros_len a.l
 apply join
 ·intro J
  refine ⟨fun h1=>⟨[.ro],.bool (hereE a),[none],spec_l10Here a va.2.2.1,trivial,fun h2=>⟨fun h3=>⟨fun h4=>⟨fun h5=>⟨.of_eq (congrArg AV.bool ?_),trivial⟩,fun h5=>⟨{i:Nat // i≤a.l.length∧(∀ j (h:j < a.l.length),j < i→okE a.l[j] (d+1) p=true)∧d≤6∧okE a d p=a.l.all fun x=>okE x (d+1) p},fun i=>⟨[(1,.int .i64 d),(2,.bool p),(3,.ptr 0 0 0),(7,.int .i64 i.1)],[(0,.box (GExpr.ro a) [])]⟩,fun i=>a.l.length - i.1,⟨0,Nat.zero_le _,fun j h h2=>absurd h2 (Nat.not_lt_zero _),?_,?_⟩,⟨rfl,rfl,rfl,rfl,rfl,.refl _,trivial⟩,J⟩⟩,fun h4=>⟨.of_eq (congrArg AV.bool ?_),trivial⟩⟩,fun h3=>⟨{i:Nat // i≤a.l.length∧(∀ j (h:j < a.l.length),j < i→okE a.l[j] (d+1) p=true)∧d≤6∧okE a d p=a.l.all fun x=>okE x (d+1) p},fun i=>⟨[(1,.int .i64 d),(2,.bool p),(3,.ptr 0 0 0),(7,.int .i64 i.1)],[(0,.box (GExpr.ro a) [])]⟩,fun i=>a.l.length - i.1,⟨0,Nat.zero_le _,fun j h h2=>absurd h2 (Nat.not_lt_zero _),?_,?_⟩,⟨rfl,rfl,rfl,rfl,rfl,.refl _,trivial⟩,J⟩⟩,fun h2=>⟨.of_eq (congrArg AV.bool ?_),trivial⟩⟩,fun h1=>⟨.of_eq (congrArg AV.bool ?_),trivial⟩⟩
  all_goals clear J ih fa oa ua va la
  all_goals first | (have:=of_decide_eq_false h1;omega) | (rw[okE_un];simp_all)
 ·rintro ⟨i,hi,ha,hd,hO⟩
  dsimp only
  refine ⟨fun h=>?_,fun h=>⟨.of_eq (congrArg AV.bool ?_),trivial⟩⟩<;>simp only[la,decide_eq_true_eq,decide_eq_false_iff_not] at h
  ·have hi:i < a.l.length:=by omega
   have e1:IntKind.wrap .i64 (d+1)=d+1:=w64 (by omega) (by omega)
   refine ⟨Int.natCast_nonneg _,_,ros_get _ _ hi,?_⟩
   refine ⟨[.ro,.ro,.ro],.bool (okE a.l[i] (d+1) p),[none,none,none],by rw[e1];exact ih _ (List.getElem_mem _) (d+1) p (ua.2 _ (List.getElem_mem _)) (va.2.2.2.2 _ (List.getElem_mem _)) (by omega) (by omega),trivial,?_⟩
   refine ⟨fun h=>⟨.of_eq (congrArg AV.bool ?_),trivial⟩,fun h=>?_⟩<;>simp only[Bool.not_eq_true',Bool.not_eq_false'] at h
   ·exact (hO.trans (List.all_eq_false.2 ⟨_,List.getElem_mem hi,by simp[h]⟩)).symm
   ·refine ⟨⟨i+1,by omega,fun j h1 hj=>?_,hd,hO⟩,by dsimp only;omega,rfl,rfl,rfl,rfl,congrArg (AV.int .i64) (w64 (by omega) (by omega)),.refl _,trivial⟩
    rcases Nat.lt_succ_iff_lt_or_eq.1 hj with h3 | h3
    ·exact ha j h1 h3
    ·subst h3;exact h
  ·refine (hO.trans (List.all_eq_true.2 fun x hx=>?_)).symm
   obtain ⟨j,hj,rfl⟩:=List.mem_iff_getElem.1 hx
   exact ha j hj (by omega)
theorem spec_PlainOk (a:GExpr) (fa:GExpr.fit a) (oa:GExpr.ok a):Con 332 [.agg (GExpr.ro a)] (.bool (okE a 1 true)) [none]:=by
 refine con Tryz.func332 ?_
 exact ⟨[.ro,.ro,.ro],.bool (okE a 1 true),[none,none,none],spec_l10Ok a 1 true fa oa (by decide) (by decide),trivial,.refl _,trivial⟩
def argE (a:GArg):Bool:=if inI a.form 0 5=true then inI a.reg 0 7&&zeroE a.e else if a.form=6∨a.form=7 then inI a.reg 0 7&&okE a.e 1 true else if inI a.form 8 11=true then decide (a.reg=0)&&okE a.e 1 true else false
theorem inI_true {x lo hi:Int}:inI x lo hi=true↔lo≤x∧x≤hi:=by simp[inI]
theorem inI_false {x lo hi:Int}:inI x lo hi=false↔¬ (lo≤x∧x≤hi):=by simp[inI]
theorem spec_ArgOk (a:GArg) (fa:GExpr.fit a.e) (oa:GArg.ok a):Con 330 [.agg (GArg.ro a)] (.bool (argE a)) [none]:=by
 refine con Tryz.func330 ?_
 replace oa:=GArg.ok_un oa
 refine ⟨[.ro,.ro,.ro],.bool (inI a.form 0 5),[none,none,none],spec_l1In _ _ _,trivial,fun h1=>⟨[.ro,.ro,.ro],.bool (inI a.reg 0 7),[none,none,none],spec_l1In _ _ _,trivial,fun h2=>⟨[.ro],.bool (zeroE a.e),[none],spec_l12Zero a.e,trivial,.of_eq (congrArg AV.bool ?_),trivial⟩,fun h2=>⟨.of_eq (congrArg AV.bool ?_),trivial⟩⟩,fun h1=>⟨fun h3=>⟨fun h4=>⟨[.ro,.ro,.ro],.bool (inI a.reg 0 7),[none,none,none],spec_l1In _ _ _,trivial,fun h2=>⟨[.ro],.bool (okE a.e 1 true),[none],spec_PlainOk a.e fa oa.2.2,trivial,.of_eq (congrArg AV.bool ?_),trivial⟩,fun h2=>⟨.of_eq (congrArg AV.bool ?_),trivial⟩⟩,fun h4=>⟨[.ro,.ro,.ro],.bool (inI a.form 8 11),[none,none,none],spec_l1In _ _ _,trivial,fun h5=>⟨fun h6=>⟨[.ro],.bool (okE a.e 1 true),[none],spec_PlainOk a.e fa oa.2.2,trivial,.of_eq (congrArg AV.bool ?_),trivial⟩,fun h6=>⟨.of_eq (congrArg AV.bool ?_),trivial⟩⟩,fun h5=>⟨.of_eq (congrArg AV.bool ?_),trivial⟩⟩⟩,fun h3=>⟨[.ro,.ro,.ro],.bool (inI a.reg 0 7),[none,none,none],spec_l1In _ _ _,trivial,fun h2=>⟨[.ro],.bool (okE a.e 1 true),[none],spec_PlainOk a.e fa oa.2.2,trivial,.of_eq (congrArg AV.bool ?_),trivial⟩,fun h2=>⟨.of_eq (congrArg AV.bool ?_),trivial⟩⟩⟩⟩
 all_goals clear oa fa
 all_goals simp_all[argE]
theorem impl_termOk:∀ (a:GExpr) (d:Int) (p:Bool) (fa:GExpr.fit a) (oa:GExpr.ok a) (h0:0≤d) (h1:d≤6),Con 175 [.agg (GExpr.ro a),.int .i64 d,.bool p] (.bool (okE a (7 - d) p)) [none,none,none]:=by
 refine GExpr.ind fun a ih d p fa oa hd0 hd1=>?_
 have ua:=GExpr.fit_un fa
 have va:=GExpr.ok_un oa
 refine conC (fun i=>Nat.beq i 15) Tryz.func175 ?_
 have la:=ros_len a.l
 apply join
 ·intro J
  refine ⟨fun s1=>⟨[.ro],.bool (inI a.n 0 65535),[none],impl_isWord _,trivial,⟨fun b=>⟨{q:Int×Option Bool // (hereE a&&!(p&&(decide (a.k=11)||decide (a.k=12))))=(match q.2 with | none=>false | some b=>b&&decide ((a.l.length:Int)=q.1))},fun q=>⟨[(1,.int .i64 d),(2,.bool p),(3,.ptr 0 0 0),(7,.int .i64 q.1.1),(8,match q.1.2 with | none=> .ff | some b=> .bool b)],[(0,.box (GExpr.ro a) [])]⟩,⟨(0,some (decide (a.s=⟨#[]⟩))),?_⟩,⟨rfl,rfl,rfl,rfl,rfl,rfl,.refl _,trivial⟩,J⟩,fun b=>⟨{q:Int×Option Bool // (hereE a&&!(p&&(decide (a.k=11)||decide (a.k=12))))=(match q.2 with | none=>false | some b=>b&&decide ((a.l.length:Int)=q.1))},fun q=>⟨[(1,.int .i64 d),(2,.bool p),(3,.ptr 0 0 0),(7,.int .i64 q.1.1),(8,match q.1.2 with | none=> .ff | some b=> .bool b)],[(0,.box (GExpr.ro a) [])]⟩,⟨(0,none),?_⟩,⟨rfl,rfl,rfl,rfl,rfl,rfl,.refl _,trivial⟩,J⟩⟩⟩,fun s1=>⟨fun s2=>⟨fun s12=>⟨fun sp=>⟨fun b=>⟨[.ro],.bool (isNm a.s),[none],impl_isName _ va.2.2.1,trivial,⟨{q:Int×Option Bool // (hereE a&&!(p&&(decide (a.k=11)||decide (a.k=12))))=(match q.2 with | none=>false | some b=>b&&decide ((a.l.length:Int)=q.1))},fun q=>⟨[(1,.int .i64 d),(2,.bool p),(3,.ptr 0 0 0),(7,.int .i64 q.1.1),(8,match q.1.2 with | none=> .ff | some b=> .bool b)],[(0,.box (GExpr.ro a) [])]⟩,⟨(0,some (isNm a.s)),?_⟩,⟨rfl,rfl,rfl,rfl,rfl,rfl,.refl _,trivial⟩,J⟩⟩,fun b=>⟨{q:Int×Option Bool // (hereE a&&!(p&&(decide (a.k=11)||decide (a.k=12))))=(match q.2 with | none=>false | some b=>b&&decide ((a.l.length:Int)=q.1))},fun q=>⟨[(1,.int .i64 d),(2,.bool p),(3,.ptr 0 0 0),(7,.int .i64 q.1.1),(8,match q.1.2 with | none=> .ff | some b=> .bool b)],[(0,.box (GExpr.ro a) [])]⟩,⟨(0,none),?_⟩,⟨rfl,rfl,rfl,rfl,rfl,rfl,.refl _,trivial⟩,J⟩⟩,fun sp=>⟨fun s11=>⟨fun sq=>⟨[.ro,.ro,.ro],.bool (inI a.n 0 9),[none,none,none],impl_within _ _ _,trivial,⟨fun b=>⟨{q:Int×Option Bool // (hereE a&&!(p&&(decide (a.k=11)||decide (a.k=12))))=(match q.2 with | none=>false | some b=>b&&decide ((a.l.length:Int)=q.1))},fun q=>⟨[(1,.int .i64 d),(2,.bool p),(3,.ptr 0 0 0),(7,.int .i64 q.1.1),(8,match q.1.2 with | none=> .ff | some b=> .bool b)],[(0,.box (GExpr.ro a) [])]⟩,⟨(0,some (decide (a.s=⟨#[]⟩))),?_⟩,⟨rfl,rfl,rfl,rfl,rfl,rfl,.refl _,trivial⟩,J⟩,fun b=>⟨{q:Int×Option Bool // (hereE a&&!(p&&(decide (a.k=11)||decide (a.k=12))))=(match q.2 with | none=>false | some b=>b&&decide ((a.l.length:Int)=q.1))},fun q=>⟨[(1,.int .i64 d),(2,.bool p),(3,.ptr 0 0 0),(7,.int .i64 q.1.1),(8,match q.1.2 with | none=> .ff | some b=> .bool b)],[(0,.box (GExpr.ro a) [])]⟩,⟨(0,none),?_⟩,⟨rfl,rfl,rfl,rfl,rfl,rfl,.refl _,trivial⟩,J⟩⟩⟩,fun sq=>⟨fun s3=>⟨fun b=>⟨{q:Int×Option Bool // (hereE a&&!(p&&(decide (a.k=11)||decide (a.k=12))))=(match q.2 with | none=>false | some b=>b&&decide ((a.l.length:Int)=q.1))},fun q=>⟨[(1,.int .i64 d),(2,.bool p),(3,.ptr 0 0 0),(7,.int .i64 q.1.1),(8,match q.1.2 with | none=> .ff | some b=> .bool b)],[(0,.box (GExpr.ro a) [])]⟩,⟨(0,some (decide (a.s=⟨#[]⟩))),?_⟩,⟨rfl,rfl,rfl,rfl,rfl,rfl,.refl _,trivial⟩,J⟩,fun b=>⟨{q:Int×Option Bool // (hereE a&&!(p&&(decide (a.k=11)||decide (a.k=12))))=(match q.2 with | none=>false | some b=>b&&decide ((a.l.length:Int)=q.1))},fun q=>⟨[(1,.int .i64 d),(2,.bool p),(3,.ptr 0 0 0),(7,.int .i64 q.1.1),(8,match q.1.2 with | none=> .ff | some b=> .bool b)],[(0,.box (GExpr.ro a) [])]⟩,⟨(0,none),?_⟩,⟨rfl,rfl,rfl,rfl,rfl,rfl,.refl _,trivial⟩,J⟩⟩,fun s3=>⟨fun s4=>⟨fun b=>⟨rfl,⟨{q:Int×Option Bool // (hereE a&&!(p&&(decide (a.k=11)||decide (a.k=12))))=(match q.2 with | none=>false | some b=>b&&decide ((a.l.length:Int)=q.1))},fun q=>⟨[(1,.int .i64 d),(2,.bool p),(3,.ptr 0 0 0),(7,.int .i64 q.1.1),(8,match q.1.2 with | none=> .ff | some b=> .bool b)],[(0,.box (GExpr.ro a) [])]⟩,⟨(1,some (decide (a.s=⟨#[]⟩))),?_⟩,⟨rfl,rfl,rfl,rfl,rfl,rfl,.refl _,trivial⟩,J⟩⟩,fun b=>⟨rfl,⟨{q:Int×Option Bool // (hereE a&&!(p&&(decide (a.k=11)||decide (a.k=12))))=(match q.2 with | none=>false | some b=>b&&decide ((a.l.length:Int)=q.1))},fun q=>⟨[(1,.int .i64 d),(2,.bool p),(3,.ptr 0 0 0),(7,.int .i64 q.1.1),(8,match q.1.2 with | none=> .ff | some b=> .bool b)],[(0,.box (GExpr.ro a) [])]⟩,⟨(1,none),?_⟩,⟨rfl,rfl,rfl,rfl,rfl,rfl,.refl _,trivial⟩,J⟩⟩⟩,fun s4=>⟨[.ro],.bool (inI a.k 5 10),[none],impl_isTwo _,trivial,fun s5=>⟨fun b=>⟨rfl,⟨{q:Int×Option Bool // (hereE a&&!(p&&(decide (a.k=11)||decide (a.k=12))))=(match q.2 with | none=>false | some b=>b&&decide ((a.l.length:Int)=q.1))},fun q=>⟨[(1,.int .i64 d),(2,.bool p),(3,.ptr 0 0 0),(7,.int .i64 q.1.1),(8,match q.1.2 with | none=> .ff | some b=> .bool b)],[(0,.box (GExpr.ro a) [])]⟩,⟨(2,some (decide (a.s=⟨#[]⟩))),?_⟩,⟨rfl,rfl,rfl,rfl,rfl,rfl,.refl _,trivial⟩,J⟩⟩,fun b=>⟨rfl,⟨{q:Int×Option Bool // (hereE a&&!(p&&(decide (a.k=11)||decide (a.k=12))))=(match q.2 with | none=>false | some b=>b&&decide ((a.l.length:Int)=q.1))},fun q=>⟨[(1,.int .i64 d),(2,.bool p),(3,.ptr 0 0 0),(7,.int .i64 q.1.1),(8,match q.1.2 with | none=> .ff | some b=> .bool b)],[(0,.box (GExpr.ro a) [])]⟩,⟨(2,none),?_⟩,⟨rfl,rfl,rfl,rfl,rfl,rfl,.refl _,trivial⟩,J⟩⟩⟩,fun s5=>⟨{q:Int×Option Bool // (hereE a&&!(p&&(decide (a.k=11)||decide (a.k=12))))=(match q.2 with | none=>false | some b=>b&&decide ((a.l.length:Int)=q.1))},fun q=>⟨[(1,.int .i64 d),(2,.bool p),(3,.ptr 0 0 0),(7,.int .i64 q.1.1),(8,match q.1.2 with | none=> .ff | some b=> .bool b)],[(0,.box (GExpr.ro a) [])]⟩,⟨(0,none),?_⟩,⟨rfl,rfl,rfl,rfl,rfl,rfl,.refl _,trivial⟩,J⟩⟩⟩⟩⟩,fun s11=>⟨fun s3=>⟨fun b=>⟨{q:Int×Option Bool // (hereE a&&!(p&&(decide (a.k=11)||decide (a.k=12))))=(match q.2 with | none=>false | some b=>b&&decide ((a.l.length:Int)=q.1))},fun q=>⟨[(1,.int .i64 d),(2,.bool p),(3,.ptr 0 0 0),(7,.int .i64 q.1.1),(8,match q.1.2 with | none=> .ff | some b=> .bool b)],[(0,.box (GExpr.ro a) [])]⟩,⟨(0,some (decide (a.s=⟨#[]⟩))),?_⟩,⟨rfl,rfl,rfl,rfl,rfl,rfl,.refl _,trivial⟩,J⟩,fun b=>⟨{q:Int×Option Bool // (hereE a&&!(p&&(decide (a.k=11)||decide (a.k=12))))=(match q.2 with | none=>false | some b=>b&&decide ((a.l.length:Int)=q.1))},fun q=>⟨[(1,.int .i64 d),(2,.bool p),(3,.ptr 0 0 0),(7,.int .i64 q.1.1),(8,match q.1.2 with | none=> .ff | some b=> .bool b)],[(0,.box (GExpr.ro a) [])]⟩,⟨(0,none),?_⟩,⟨rfl,rfl,rfl,rfl,rfl,rfl,.refl _,trivial⟩,J⟩⟩,fun s3=>⟨fun s4=>⟨fun b=>⟨rfl,⟨{q:Int×Option Bool // (hereE a&&!(p&&(decide (a.k=11)||decide (a.k=12))))=(match q.2 with | none=>false | some b=>b&&decide ((a.l.length:Int)=q.1))},fun q=>⟨[(1,.int .i64 d),(2,.bool p),(3,.ptr 0 0 0),(7,.int .i64 q.1.1),(8,match q.1.2 with | none=> .ff | some b=> .bool b)],[(0,.box (GExpr.ro a) [])]⟩,⟨(1,some (decide (a.s=⟨#[]⟩))),?_⟩,⟨rfl,rfl,rfl,rfl,rfl,rfl,.refl _,trivial⟩,J⟩⟩,fun b=>⟨rfl,⟨{q:Int×Option Bool // (hereE a&&!(p&&(decide (a.k=11)||decide (a.k=12))))=(match q.2 with | none=>false | some b=>b&&decide ((a.l.length:Int)=q.1))},fun q=>⟨[(1,.int .i64 d),(2,.bool p),(3,.ptr 0 0 0),(7,.int .i64 q.1.1),(8,match q.1.2 with | none=> .ff | some b=> .bool b)],[(0,.box (GExpr.ro a) [])]⟩,⟨(1,none),?_⟩,⟨rfl,rfl,rfl,rfl,rfl,rfl,.refl _,trivial⟩,J⟩⟩⟩,fun s4=>⟨[.ro],.bool (inI a.k 5 10),[none],impl_isTwo _,trivial,fun s5=>⟨fun b=>⟨rfl,⟨{q:Int×Option Bool // (hereE a&&!(p&&(decide (a.k=11)||decide (a.k=12))))=(match q.2 with | none=>false | some b=>b&&decide ((a.l.length:Int)=q.1))},fun q=>⟨[(1,.int .i64 d),(2,.bool p),(3,.ptr 0 0 0),(7,.int .i64 q.1.1),(8,match q.1.2 with | none=> .ff | some b=> .bool b)],[(0,.box (GExpr.ro a) [])]⟩,⟨(2,some (decide (a.s=⟨#[]⟩))),?_⟩,⟨rfl,rfl,rfl,rfl,rfl,rfl,.refl _,trivial⟩,J⟩⟩,fun b=>⟨rfl,⟨{q:Int×Option Bool // (hereE a&&!(p&&(decide (a.k=11)||decide (a.k=12))))=(match q.2 with | none=>false | some b=>b&&decide ((a.l.length:Int)=q.1))},fun q=>⟨[(1,.int .i64 d),(2,.bool p),(3,.ptr 0 0 0),(7,.int .i64 q.1.1),(8,match q.1.2 with | none=> .ff | some b=> .bool b)],[(0,.box (GExpr.ro a) [])]⟩,⟨(2,none),?_⟩,⟨rfl,rfl,rfl,rfl,rfl,rfl,.refl _,trivial⟩,J⟩⟩⟩,fun s5=>⟨{q:Int×Option Bool // (hereE a&&!(p&&(decide (a.k=11)||decide (a.k=12))))=(match q.2 with | none=>false | some b=>b&&decide ((a.l.length:Int)=q.1))},fun q=>⟨[(1,.int .i64 d),(2,.bool p),(3,.ptr 0 0 0),(7,.int .i64 q.1.1),(8,match q.1.2 with | none=> .ff | some b=> .bool b)],[(0,.box (GExpr.ro a) [])]⟩,⟨(0,none),?_⟩,⟨rfl,rfl,rfl,rfl,rfl,rfl,.refl _,trivial⟩,J⟩⟩⟩⟩⟩⟩,fun s12=>⟨fun s11=>⟨fun sq=>⟨[.ro,.ro,.ro],.bool (inI a.n 0 9),[none,none,none],impl_within _ _ _,trivial,⟨fun b=>⟨{q:Int×Option Bool // (hereE a&&!(p&&(decide (a.k=11)||decide (a.k=12))))=(match q.2 with | none=>false | some b=>b&&decide ((a.l.length:Int)=q.1))},fun q=>⟨[(1,.int .i64 d),(2,.bool p),(3,.ptr 0 0 0),(7,.int .i64 q.1.1),(8,match q.1.2 with | none=> .ff | some b=> .bool b)],[(0,.box (GExpr.ro a) [])]⟩,⟨(0,some (decide (a.s=⟨#[]⟩))),?_⟩,⟨rfl,rfl,rfl,rfl,rfl,rfl,.refl _,trivial⟩,J⟩,fun b=>⟨{q:Int×Option Bool // (hereE a&&!(p&&(decide (a.k=11)||decide (a.k=12))))=(match q.2 with | none=>false | some b=>b&&decide ((a.l.length:Int)=q.1))},fun q=>⟨[(1,.int .i64 d),(2,.bool p),(3,.ptr 0 0 0),(7,.int .i64 q.1.1),(8,match q.1.2 with | none=> .ff | some b=> .bool b)],[(0,.box (GExpr.ro a) [])]⟩,⟨(0,none),?_⟩,⟨rfl,rfl,rfl,rfl,rfl,rfl,.refl _,trivial⟩,J⟩⟩⟩,fun sq=>⟨fun s3=>⟨fun b=>⟨{q:Int×Option Bool // (hereE a&&!(p&&(decide (a.k=11)||decide (a.k=12))))=(match q.2 with | none=>false | some b=>b&&decide ((a.l.length:Int)=q.1))},fun q=>⟨[(1,.int .i64 d),(2,.bool p),(3,.ptr 0 0 0),(7,.int .i64 q.1.1),(8,match q.1.2 with | none=> .ff | some b=> .bool b)],[(0,.box (GExpr.ro a) [])]⟩,⟨(0,some (decide (a.s=⟨#[]⟩))),?_⟩,⟨rfl,rfl,rfl,rfl,rfl,rfl,.refl _,trivial⟩,J⟩,fun b=>⟨{q:Int×Option Bool // (hereE a&&!(p&&(decide (a.k=11)||decide (a.k=12))))=(match q.2 with | none=>false | some b=>b&&decide ((a.l.length:Int)=q.1))},fun q=>⟨[(1,.int .i64 d),(2,.bool p),(3,.ptr 0 0 0),(7,.int .i64 q.1.1),(8,match q.1.2 with | none=> .ff | some b=> .bool b)],[(0,.box (GExpr.ro a) [])]⟩,⟨(0,none),?_⟩,⟨rfl,rfl,rfl,rfl,rfl,rfl,.refl _,trivial⟩,J⟩⟩,fun s3=>⟨fun s4=>⟨fun b=>⟨rfl,⟨{q:Int×Option Bool // (hereE a&&!(p&&(decide (a.k=11)||decide (a.k=12))))=(match q.2 with | none=>false | some b=>b&&decide ((a.l.length:Int)=q.1))},fun q=>⟨[(1,.int .i64 d),(2,.bool p),(3,.ptr 0 0 0),(7,.int .i64 q.1.1),(8,match q.1.2 with | none=> .ff | some b=> .bool b)],[(0,.box (GExpr.ro a) [])]⟩,⟨(1,some (decide (a.s=⟨#[]⟩))),?_⟩,⟨rfl,rfl,rfl,rfl,rfl,rfl,.refl _,trivial⟩,J⟩⟩,fun b=>⟨rfl,⟨{q:Int×Option Bool // (hereE a&&!(p&&(decide (a.k=11)||decide (a.k=12))))=(match q.2 with | none=>false | some b=>b&&decide ((a.l.length:Int)=q.1))},fun q=>⟨[(1,.int .i64 d),(2,.bool p),(3,.ptr 0 0 0),(7,.int .i64 q.1.1),(8,match q.1.2 with | none=> .ff | some b=> .bool b)],[(0,.box (GExpr.ro a) [])]⟩,⟨(1,none),?_⟩,⟨rfl,rfl,rfl,rfl,rfl,rfl,.refl _,trivial⟩,J⟩⟩⟩,fun s4=>⟨[.ro],.bool (inI a.k 5 10),[none],impl_isTwo _,trivial,fun s5=>⟨fun b=>⟨rfl,⟨{q:Int×Option Bool // (hereE a&&!(p&&(decide (a.k=11)||decide (a.k=12))))=(match q.2 with | none=>false | some b=>b&&decide ((a.l.length:Int)=q.1))},fun q=>⟨[(1,.int .i64 d),(2,.bool p),(3,.ptr 0 0 0),(7,.int .i64 q.1.1),(8,match q.1.2 with | none=> .ff | some b=> .bool b)],[(0,.box (GExpr.ro a) [])]⟩,⟨(2,some (decide (a.s=⟨#[]⟩))),?_⟩,⟨rfl,rfl,rfl,rfl,rfl,rfl,.refl _,trivial⟩,J⟩⟩,fun b=>⟨rfl,⟨{q:Int×Option Bool // (hereE a&&!(p&&(decide (a.k=11)||decide (a.k=12))))=(match q.2 with | none=>false | some b=>b&&decide ((a.l.length:Int)=q.1))},fun q=>⟨[(1,.int .i64 d),(2,.bool p),(3,.ptr 0 0 0),(7,.int .i64 q.1.1),(8,match q.1.2 with | none=> .ff | some b=> .bool b)],[(0,.box (GExpr.ro a) [])]⟩,⟨(2,none),?_⟩,⟨rfl,rfl,rfl,rfl,rfl,rfl,.refl _,trivial⟩,J⟩⟩⟩,fun s5=>⟨{q:Int×Option Bool // (hereE a&&!(p&&(decide (a.k=11)||decide (a.k=12))))=(match q.2 with | none=>false | some b=>b&&decide ((a.l.length:Int)=q.1))},fun q=>⟨[(1,.int .i64 d),(2,.bool p),(3,.ptr 0 0 0),(7,.int .i64 q.1.1),(8,match q.1.2 with | none=> .ff | some b=> .bool b)],[(0,.box (GExpr.ro a) [])]⟩,⟨(0,none),?_⟩,⟨rfl,rfl,rfl,rfl,rfl,rfl,.refl _,trivial⟩,J⟩⟩⟩⟩⟩,fun s11=>⟨fun s3=>⟨fun b=>⟨{q:Int×Option Bool // (hereE a&&!(p&&(decide (a.k=11)||decide (a.k=12))))=(match q.2 with | none=>false | some b=>b&&decide ((a.l.length:Int)=q.1))},fun q=>⟨[(1,.int .i64 d),(2,.bool p),(3,.ptr 0 0 0),(7,.int .i64 q.1.1),(8,match q.1.2 with | none=> .ff | some b=> .bool b)],[(0,.box (GExpr.ro a) [])]⟩,⟨(0,some (decide (a.s=⟨#[]⟩))),?_⟩,⟨rfl,rfl,rfl,rfl,rfl,rfl,.refl _,trivial⟩,J⟩,fun b=>⟨{q:Int×Option Bool // (hereE a&&!(p&&(decide (a.k=11)||decide (a.k=12))))=(match q.2 with | none=>false | some b=>b&&decide ((a.l.length:Int)=q.1))},fun q=>⟨[(1,.int .i64 d),(2,.bool p),(3,.ptr 0 0 0),(7,.int .i64 q.1.1),(8,match q.1.2 with | none=> .ff | some b=> .bool b)],[(0,.box (GExpr.ro a) [])]⟩,⟨(0,none),?_⟩,⟨rfl,rfl,rfl,rfl,rfl,rfl,.refl _,trivial⟩,J⟩⟩,fun s3=>⟨fun s4=>⟨fun b=>⟨rfl,⟨{q:Int×Option Bool // (hereE a&&!(p&&(decide (a.k=11)||decide (a.k=12))))=(match q.2 with | none=>false | some b=>b&&decide ((a.l.length:Int)=q.1))},fun q=>⟨[(1,.int .i64 d),(2,.bool p),(3,.ptr 0 0 0),(7,.int .i64 q.1.1),(8,match q.1.2 with | none=> .ff | some b=> .bool b)],[(0,.box (GExpr.ro a) [])]⟩,⟨(1,some (decide (a.s=⟨#[]⟩))),?_⟩,⟨rfl,rfl,rfl,rfl,rfl,rfl,.refl _,trivial⟩,J⟩⟩,fun b=>⟨rfl,⟨{q:Int×Option Bool // (hereE a&&!(p&&(decide (a.k=11)||decide (a.k=12))))=(match q.2 with | none=>false | some b=>b&&decide ((a.l.length:Int)=q.1))},fun q=>⟨[(1,.int .i64 d),(2,.bool p),(3,.ptr 0 0 0),(7,.int .i64 q.1.1),(8,match q.1.2 with | none=> .ff | some b=> .bool b)],[(0,.box (GExpr.ro a) [])]⟩,⟨(1,none),?_⟩,⟨rfl,rfl,rfl,rfl,rfl,rfl,.refl _,trivial⟩,J⟩⟩⟩,fun s4=>⟨[.ro],.bool (inI a.k 5 10),[none],impl_isTwo _,trivial,fun s5=>⟨fun b=>⟨rfl,⟨{q:Int×Option Bool // (hereE a&&!(p&&(decide (a.k=11)||decide (a.k=12))))=(match q.2 with | none=>false | some b=>b&&decide ((a.l.length:Int)=q.1))},fun q=>⟨[(1,.int .i64 d),(2,.bool p),(3,.ptr 0 0 0),(7,.int .i64 q.1.1),(8,match q.1.2 with | none=> .ff | some b=> .bool b)],[(0,.box (GExpr.ro a) [])]⟩,⟨(2,some (decide (a.s=⟨#[]⟩))),?_⟩,⟨rfl,rfl,rfl,rfl,rfl,rfl,.refl _,trivial⟩,J⟩⟩,fun b=>⟨rfl,⟨{q:Int×Option Bool // (hereE a&&!(p&&(decide (a.k=11)||decide (a.k=12))))=(match q.2 with | none=>false | some b=>b&&decide ((a.l.length:Int)=q.1))},fun q=>⟨[(1,.int .i64 d),(2,.bool p),(3,.ptr 0 0 0),(7,.int .i64 q.1.1),(8,match q.1.2 with | none=> .ff | some b=> .bool b)],[(0,.box (GExpr.ro a) [])]⟩,⟨(2,none),?_⟩,⟨rfl,rfl,rfl,rfl,rfl,rfl,.refl _,trivial⟩,J⟩⟩⟩,fun s5=>⟨{q:Int×Option Bool // (hereE a&&!(p&&(decide (a.k=11)||decide (a.k=12))))=(match q.2 with | none=>false | some b=>b&&decide ((a.l.length:Int)=q.1))},fun q=>⟨[(1,.int .i64 d),(2,.bool p),(3,.ptr 0 0 0),(7,.int .i64 q.1.1),(8,match q.1.2 with | none=> .ff | some b=> .bool b)],[(0,.box (GExpr.ro a) [])]⟩,⟨(0,none),?_⟩,⟨rfl,rfl,rfl,rfl,rfl,rfl,.refl _,trivial⟩,J⟩⟩⟩⟩⟩⟩,fun s2=>⟨fun b=>⟨[.ro],.bool (isNm a.s),[none],impl_isName _ va.2.2.1,trivial,⟨{q:Int×Option Bool // (hereE a&&!(p&&(decide (a.k=11)||decide (a.k=12))))=(match q.2 with | none=>false | some b=>b&&decide ((a.l.length:Int)=q.1))},fun q=>⟨[(1,.int .i64 d),(2,.bool p),(3,.ptr 0 0 0),(7,.int .i64 q.1.1),(8,match q.1.2 with | none=> .ff | some b=> .bool b)],[(0,.box (GExpr.ro a) [])]⟩,⟨(0,some (isNm a.s)),?_⟩,⟨rfl,rfl,rfl,rfl,rfl,rfl,.refl _,trivial⟩,J⟩⟩,fun b=>⟨{q:Int×Option Bool // (hereE a&&!(p&&(decide (a.k=11)||decide (a.k=12))))=(match q.2 with | none=>false | some b=>b&&decide ((a.l.length:Int)=q.1))},fun q=>⟨[(1,.int .i64 d),(2,.bool p),(3,.ptr 0 0 0),(7,.int .i64 q.1.1),(8,match q.1.2 with | none=> .ff | some b=> .bool b)],[(0,.box (GExpr.ro a) [])]⟩,⟨(0,none),?_⟩,⟨rfl,rfl,rfl,rfl,rfl,rfl,.refl _,trivial⟩,J⟩⟩⟩⟩
  all_goals clear J ih fa oa ua va la hd0 hd1
  all_goals simp only[Bool.not_eq_true',Bool.not_eq_false',inI_true,inI_false,decide_eq_true_eq,decide_eq_false_iff_not] at*
  all_goals by_cases he:a.s=⟨#[]⟩<;>simp_all[hereE,inI]<;>omega
 ·rintro ⟨⟨c,o⟩,hF⟩
  dsimp only at hF⊢
  cases o with
  | none=>
   refine ⟨.of_eq (congrArg AV.bool ?_),trivial⟩
   rw[okE_un,←Bool.and_assoc (hereE a),hF];simp
  | some b=>
   refine ⟨fun g1=>⟨fun g2=>⟨fun g3=>⟨.of_eq (congrArg AV.bool ?_),trivial⟩,fun g3=>?_⟩,fun g2=>⟨.of_eq (congrArg AV.bool ?_),trivial⟩⟩,fun g1=>⟨.of_eq (congrArg AV.bool ?_),trivial⟩⟩
   ·simp only[la,decide_eq_true_eq] at g3
    rw[okE_un,←Bool.and_assoc (hereE a),hF,decide_eq_false g3];simp
   ·simp only[la,decide_eq_false_iff_not,Decidable.not_not,ne_eq,Bool.not_eq_false'] at g1 g2 g3
    have hO:okE a (7 - d) p=a.l.all fun x=>okE x (7 - d+1) p:=by
     rw[okE_un,←Bool.and_assoc (hereE a),hF,g1,decide_eq_true g3,decide_eq_false (by omega)];simp
    refine ⟨{i:Nat // i≤a.l.length∧∀ j (h:j < a.l.length),j < i→okE a.l[j] (7 - d+1) p=true},fun i=>⟨[(1,.int .i64 d),(2,.bool p),(110,.ro 4 (GExpr.ros a.l)),(111,.int .i64 a.l.length),(112,.int .i64 i.1)],[]⟩,fun i=>a.l.length - i.1,⟨0,Nat.zero_le _,fun j h h2=>absurd h2 (Nat.not_lt_zero _)⟩,?_,?_⟩
    ·exact ⟨rfl,rfl,rfl,congrArg (AV.int .i64) (by rw[la]),rfl,trivial⟩
    ·rintro ⟨i,hi,ha⟩
     dsimp only
     refine ⟨fun h=>?_,fun h=>⟨.of_eq (congrArg AV.bool ?_),trivial⟩⟩<;>simp only[decide_eq_true_eq,decide_eq_false_iff_not] at h
     ·have hi:i < a.l.length:=by omega
      have e1:IntKind.wrap .i64 (d - 1)=d - 1:=w64 (by omega) (by omega)
      have hc:=ih _ (List.getElem_mem hi) (d - 1) p (ua.2 _ (List.getElem_mem _)) (va.2.2.2.2 _ (List.getElem_mem _)) (by omega) (by omega)
      rw[show 7 - (d - 1)=7 - d+1 by omega] at hc
      refine ⟨Int.natCast_nonneg _,_,ros_get _ _ hi,?_⟩
      refine ⟨[.ro,.ro,.ro],.bool (okE a.l[i] (7 - d+1) p),[none,none,none],by rw[e1];exact hc,trivial,?_⟩
      refine ⟨fun h=>⟨.of_eq (congrArg AV.bool ?_),trivial⟩,fun h=>?_⟩<;>simp only[Bool.not_eq_true',Bool.not_eq_false'] at h
      ·exact (hO.trans (List.all_eq_false.2 ⟨_,List.getElem_mem hi,by simp[h]⟩)).symm
      ·refine ⟨⟨i+1,by omega,fun j h1 hj=>?_⟩,by dsimp only;omega,rfl,rfl,rfl,rfl,congrArg (AV.int .i64) (w64 (by omega) (by omega)),trivial⟩
       rcases Nat.lt_succ_iff_lt_or_eq.1 hj with h3 | h3
       ·exact ha j h1 h3
       ·subst h3;exact h
     ·refine (hO.trans (List.all_eq_true.2 fun x hx=>?_)).symm
      obtain ⟨j,hj,rfl⟩:=List.mem_iff_getElem.1 hx
      exact ha j hj (by omega)
   ·simp only[decide_eq_true_eq] at g2
    rw[okE_un,decide_eq_true (by omega)];rfl
   ·simp only[Bool.not_eq_true'] at g1
    rw[okE_un,←Bool.and_assoc (hereE a),hF,g1];simp
theorem impl_ExprOk (a:GExpr) (fa:GExpr.fit a) (oa:GExpr.ok a):Con 108 [.agg (GExpr.ro a)] (.bool (okE a 1 false)) [none]:=by
 refine con Tryz.func108 ?_
 exact ⟨[.ro,.ro,.ro],.bool (okE a (7 - 6) false),[none,none,none],impl_termOk a 6 false fa oa (by decide) (by decide),trivial,.refl _,trivial⟩
theorem spec_ExprOk (a:GExpr) (fa:GExpr.fit a) (oa:GExpr.ok a):Con 52 [.agg (GExpr.ro a)] (.bool (okE a 1 false)) [none]:=by
 refine con Tryz.func52 ?_
 exact ⟨[.ro,.ro,.ro],.bool (okE a 1 false),[none,none,none],spec_l10Ok a 1 false fa oa (by decide) (by decide),trivial,.refl _,trivial⟩
end Go.Proofs.VI
