/- Contracts of functions, and what they rest on: l13arg. -/
import Derived.Test.YtjlonhiojgljcaaGreatS2
set_option linter.unusedVariables false
set_option linter.unusedSimpArgs false
set_option maxRecDepth 10000
set_option maxHeartbeats 4000000
namespace Go.Proofs.VI
open Go
abbrev kW:List ByteArray:=keptWords++regNames
def regK (t:GToken):Int:=if t.k≠5∨placeOf kW t.s < 23 then -1 else placeOf kW t.s - 23
def roundV (l:List GToken) (s:TS):Int×TS:=
 (regK (nextT l (mustT l s ⟨#[40]⟩)).1,(mustT l (nextT l (mustT l s ⟨#[40]⟩)).2 ⟨#[41]⟩).1,(mustT l (nextT l (mustT l s ⟨#[40]⟩)).2 ⟨#[41]⟩).2||decide (regK (nextT l (mustT l s ⟨#[40]⟩)).1 < 0))
def downT (l:List GToken) (s:TS):Bool:=seeT l s ⟨#[45]⟩&&(decide (s.1+1 < l.length)&&decide ((tkAt l (s.1+1)).s=⟨#[40]⟩))
def regAt (l:List GToken) (s:TS):Bool:=!s.2&&(decide (s.1 < l.length)&&decide (0≤regK (tkAt l s.1)))
def plainA (l:List GToken) (s:TS):GArg×TS:=
 if regAt l s=true then (⟨0,regK (nextT l s).1,zExpr⟩,(nextT l s).2)
 else if downT l s=true then (⟨4,(roundV l (mustT l s ⟨#[45]⟩)).1,zExpr⟩,(roundV l (mustT l s ⟨#[45]⟩)).2)
 else if seeT l s ⟨#[40]⟩=true then (⟨if seeT l (roundV l s).2 ⟨#[43]⟩=true then 2 else 1,(roundV l s).1,zExpr⟩,isT l (roundV l s).2 ⟨#[43]⟩)
 else if seeT l s ⟨#[35]⟩=true then (⟨8,0,(readV l 6 (isT l s ⟨#[35]⟩)).1⟩,(readV l 6 (isT l s ⟨#[35]⟩)).2)
 else if seeT l (readV l 6 s).2 ⟨#[40]⟩=true then (⟨6,(roundV l (readV l 6 s).2).1,(readV l 6 s).1⟩,(roundV l (readV l 6 s).2).2)
 else (⟨10,0,(readV l 6 s).1⟩,(readV l 6 s).2)
def argV (l:List GToken) (s:TS):GArg×TS:=
 if seeT l s ⟨#[64]⟩=false then plainA l (isT l s ⟨#[64]⟩)
 else if (plainA l (isT l s ⟨#[64]⟩)).1.form∈([2,4,6,8,10]:List Int) then (⟨(plainA l (isT l s ⟨#[64]⟩)).1.form+1,(plainA l (isT l s ⟨#[64]⟩)).1.reg,(plainA l (isT l s ⟨#[64]⟩)).1.e⟩,(plainA l (isT l s ⟨#[64]⟩)).2)
 else ((plainA l (isT l s ⟨#[64]⟩)).1,(plainA l (isT l s ⟨#[64]⟩)).2.1,true)
theorem placeOf_in (l:List ByteArray) (s:ByteArray): -1≤placeOf l s∧placeOf l s < l.length:=by
 rw[placeOf]
 split
 ·rename_i h
  omega
 ·omega
theorem regK_in (t:GToken): -1≤regK t∧regK t≤7:=by
 have h:=placeOf_in kW t.s
 have e:(kW.length:Int)=31:=by decide
 rw[regK];split<;>omega
theorem roundV_ok {l:List GToken} {s:TS} (h:okT l s):okT l (roundV l s).2:=mustT_ok ⟨#[41]⟩ (nextT_ok (mustT_ok ⟨#[40]⟩ h))
def argG (a:GArg):Prop:=termG a.e∧(0≤a.form∧a.form≤11)∧(-1≤a.reg∧a.reg≤7)
theorem argG_ok {a:GArg} (h:argG a):GArg.ok a:=⟨by have:=h.2.1;omega,by have:=h.2.2;omega,h.1.2⟩
theorem ag {k n:Int} {e:GExpr} (h:termG e) (hk:0≤k∧k≤10) (hn: -1≤n∧n≤7):argG ⟨k,n,e⟩∧(GArg.mk k n e).form≤10:=⟨⟨h,⟨hk.1,Int.le_trans hk.2 (by decide)⟩,hn⟩,hk.2⟩
theorem plainA_good {l:List GToken} (h:∀ t∈l,okTok t) (s:TS):argG (plainA l s).1∧(plainA l s).1.form≤10:=by
 have hr:∀ s,-1≤(roundV l s).1∧(roundV l s).1≤7:=fun s=>regK_in _
 have he:=fun s=>readV_good h 6 s
 rw[plainA]
 split
 ·exact ag (k:=0) tg_zero (by decide) (regK_in _)
 ·split
  ·exact ag (k:=4) tg_zero (by decide) (hr _)
  ·split
   ·refine ag tg_zero ?_ (hr _)
    split<;>decide
   ·split
    ·exact ag (k:=8) (n:=0) (he _) (by decide) (by decide)
    ·split
     ·exact ag (k:=6) (he _) (by decide) (hr _)
     ·exact ag (k:=10) (n:=0) (he _) (by decide) (by decide)
theorem plainA_ok {l:List GToken} {s:TS} (h:okT l s):okT l (plainA l s).2:=by
 rw[plainA]
 split
 ·exact nextT_ok h
 ·split
  ·exact roundV_ok (mustT_ok _ h)
  ·split
   ·exact isT_ok _ (roundV_ok h)
   ·split
    ·exact readV_ok 6 _ (isT_ok _ h)
    ·split
     ·exact roundV_ok (readV_ok 6 _ h)
     ·exact readV_ok 6 _ h
theorem argV_good {l:List GToken} (h:∀ t∈l,okTok t) (s:TS):argG (argV l s).1:=by
 obtain ⟨⟨h1,h2,h3⟩,h4⟩:=plainA_good h (isT l s ⟨#[64]⟩)
 rw[argV]
 split
 ·exact ⟨h1,h2,h3⟩
 ·split
  ·refine ⟨h1,?_,h3⟩
   show 0≤_+1∧_+1≤(11:Int);omega
  ·exact ⟨h1,h2,h3⟩
theorem argV_ok {l:List GToken} {s:TS} (h:okT l s):okT l (argV l s).2:=by
 have h1:okT l (plainA l (isT l s ⟨#[64]⟩)).2:=plainA_ok (isT_ok _ h)
 rw[argV]
 split
 ·exact h1
 ·split
  ·exact h1
  ·exact h1
theorem spec_l13Reg (t:GToken):Con 353 [.agg (GToken.ro t)] (.int .i64 (regK t)) [none]:=by
 have hp:=placeOf_in kW t.s
 have e:(kW.length:Int)=31:=by decide
 refine con Tryz.func353 ?_
 refine ⟨[],.ow 1 (GString.ows kW),[],spec_l9Kept,trivial,?_⟩
 refine ⟨[.ro,.ro],.int .i64 (placeOf kW t.s),[none,none],by rw[GString.roo];exact spec_l9At _ t.s (by decide),⟨trivial,trivial⟩,by kernel_rfl,?_⟩
 refine ⟨fun h=>⟨fun h2=>?_,fun h2=>?_⟩,fun h=>?_⟩
 ·exact ⟨.of_eq (congrArg (AV.int .i64) (by rw[regK,if_pos (.inr (of_decide_eq_true h2))])),trivial⟩
 ·refine ⟨.of_eq (congrArg (AV.int .i64) ?_),trivial⟩
  have h2:=of_decide_eq_false h2
  rw[regK,if_neg (fun g=>g.elim (fun g=>of_decide_eq_false h g) h2),w64 (by omega) (by omega)]
 ·exact ⟨.of_eq (congrArg (AV.int .i64) (by rw[regK,if_pos (.inl (of_decide_eq_true h))])),trivial⟩
theorem spec_l13Round (l:List GToken) (s:TS) (hl:l.length≤1099511627776) (hs:okT l s):Con 360 [.pb (tRow l s)] (.int .i64 (roundV l s).1) [some (.pb (tRow l (roundV l s).2))]:=by
 have c1:=spec_l10Must l s ⟨#[40]⟩ hl hs
 have h1:=mustT_ok ⟨#[40]⟩ hs
 have c2:=spec_l10Next l _ hl h1
 have h2:=nextT_ok h1
 have c3:=spec_l10Must l _ ⟨#[41]⟩ hl h2
 rw[roundV]
 generalize mustT l s ⟨#[40]⟩=A at*
 generalize nextT l A=B at*
 generalize mustT l B.2 ⟨#[41]⟩=C at*
 have c4:=spec_l13Reg B.1
 refine con Tryz.func360 ?_
 refine ⟨[.mut,.ro],.tup [],[some (.pb (tRow l A)),none],c1,trivial,?_⟩
 refine ⟨[.mut],.agg (GToken.ro B.1),[some (.pb (tRow l B.2))],c2,trivial,?_⟩
 refine ⟨[.ro],.int .i64 (regK B.1),[none],c4,trivial,?_⟩
 refine ⟨[.mut,.ro],.tup [],[some (.pb (tRow l C)),none],c3,trivial,?_⟩
 refine ⟨fun h=>?_,fun h=>?_⟩
 ·have h:C.2=false:=h
  exact ⟨.refl _,.of_eq (congrArg AV.pb (by rw[h];rfl)),trivial⟩
 ·have h:C.2=true:=h
  exact ⟨.refl _,.nb (by rw[h];rfl),trivial⟩
theorem spec_l13Down (l:List GToken) (s:TS) (hl:l.length≤1099511627776) (hs:okT l s):Con 359 [.pb (tRow l s)] (.bool (downT l s)) [some (.pb (tRow l s))]:=by
 have c1:=spec_l10See l s ⟨#[45]⟩ hl
 refine con Tryz.func359 ?_
 refine ⟨[.mut,.ro],.bool (seeT l s ⟨#[45]⟩),[some (.pb (tRow l s)),none],c1,trivial,?_⟩
 have hs:s.1≤l.length:=hs
 have e1:IntKind.wrap .i64 ((s.1:Int)+1)=((s.1+1:Nat):Int):=w64 (by omega) (by omega)
 have hlen:=rost_len l
 refine ⟨fun h=>⟨fun h2=>⟨?_,GToken.ro (tkAt l (s.1+1)),?_,?_⟩,fun h2=>?_⟩,fun h=>?_⟩
 ·rw[e1];exact Int.natCast_nonneg _
 ·rw[e1,Int.toNat_natCast]
  rw[e1] at h2
  have h2:=of_decide_eq_true h2
  exact tok_row (by omega)
 ·refine ⟨by kernel_rfl,?_⟩
  rw[e1] at h2
  have h2:=of_decide_eq_true h2
  refine ⟨.of_eq (congrArg AV.bool ?_),.refl _,trivial⟩
  rw[downT,h,show decide (s.1+1 < l.length)=true from decide_eq_true (by omega)];rfl
 ·refine ⟨by kernel_rfl,?_⟩
  rw[e1] at h2
  have h2:=of_decide_eq_false h2
  refine ⟨.of_eq (congrArg AV.bool ?_),.refl _,trivial⟩
  rw[downT,h,show decide (s.1+1 < l.length)=false from decide_eq_false (by omega)];rfl
 ·refine ⟨by kernel_rfl,?_⟩
  refine ⟨.of_eq (congrArg AV.bool ?_),.refl _,trivial⟩
  rw[downT,h];rfl
theorem argS0 (k n:Int):Sim (.agg [.int .i64 k,.int .i64 n,.int .i64 0,.int .i64 0,.str ⟨#[]⟩,.nils]) (.agg (GArg.ro ⟨k,n,zExpr⟩)):=by
 show Sim _ (.agg [.int .i64 k,.int .i64 n,.int .i64 0,.int .i64 0,.str ⟨#[]⟩,.ro 4 []])
 exact .agg (.cons (.refl _) (.cons (.refl _) (.cons (.refl _) (.cons (.refl _) (.cons (.refl _) (.cons (.nilr 4) (.refl _)))))))
theorem argS1 (k n:Int) (e:GExpr):Sim (.agg [.int .i64 k,.int .i64 n,.int .i64 e.k,.int .i64 e.n,.str e.s,.ro 4 (GExpr.ros e.l)]) (.agg (GArg.ro ⟨k,n,e⟩)):= .refl _
theorem spec_l13Plain (l:List GToken) (s:TS) (hl:l.length≤1099511627776) (hs:okT l s):Con 357 [.pb (tRow l s)] (.agg (GArg.ro (plainA l s).1)) [some (.pb (tRow l (plainA l s).2))]:=by
 have hlt:s.1≤l.length:=hs
 have hlen:=rost_len l
 have c1:=spec_l10Next l s hl hs
 have c2:=spec_l13Down l s hl hs
 have c3:=spec_l10Must l s ⟨#[45]⟩ hl hs
 have h3:=mustT_ok ⟨#[45]⟩ hs
 have c4:=spec_l13Round l _ hl h3
 have c5:=spec_l10See l s ⟨#[40]⟩ hl
 have c6:=spec_l13Round l s hl hs
 have h6:=roundV_ok hs
 have c7:=spec_l10Is l _ ⟨#[43]⟩ hl h6
 have c8:=spec_l10Is l s ⟨#[35]⟩ hl hs
 have h8:=isT_ok ⟨#[35]⟩ hs
 have c9:=spec_l10Read l hl 6 (by decide) _ h8
 have cA:=spec_l10Read l hl 6 (by decide) _ hs
 have hA:=readV_ok 6 _ hs
 have cB:=spec_l10See l (readV l 6 s).2 ⟨#[40]⟩ hl
 have cC:=spec_l13Round l _ hl hA
 have i8:seeT l s ⟨#[35]⟩=false→isT l s ⟨#[35]⟩=s:=fun g=>by rw[isT,if_neg (by rw[g];decide)]
 by_cases hr:regAt l s=true
 ·rw[plainA,if_pos hr]
  rw[regAt,Bool.and_eq_true,Bool.and_eq_true,decide_eq_true_eq,decide_eq_true_eq] at hr
  obtain ⟨r1,r2,r3⟩:=hr
  refine con Tryz.func357 ?_
  refine ⟨fun h=>⟨fun h2=>⟨Int.natCast_nonneg _,GToken.ro (tkAt l s.1),tok_row r2,[.ro],.int .i64 (regK (tkAt l s.1)),[none],spec_l13Reg _,trivial,by kernel_rfl,fun h3=>?_,fun h3=>absurd r3 (of_decide_eq_false h3)⟩,fun h2=>absurd r2 (by have:=of_decide_eq_false h2;omega)⟩,fun h=>by rw[r1] at h;cases h⟩
  refine ⟨[.mut],.agg (GToken.ro (nextT l s).1),[some (.pb (tRow l (nextT l s).2))],c1,trivial,?_⟩
  refine ⟨[.ro],.int .i64 (regK (nextT l s).1),[none],spec_l13Reg _,trivial,?_⟩
  exact ⟨argS0 0 _,.refl _,trivial⟩
 ·rw[plainA,if_neg hr]
  refine con Tryz.func357 ?_
  refine ⟨fun h=>⟨fun h2=>⟨Int.natCast_nonneg _,GToken.ro (tkAt l s.1),tok_row (by have:=of_decide_eq_true h2;omega),[.ro],.int .i64 (regK (tkAt l s.1)),[none],spec_l13Reg _,trivial,by kernel_rfl,fun h3=>?_,fun h3=>?_⟩,fun h2=>⟨by kernel_rfl,?_⟩⟩,fun h=>⟨by kernel_rfl,?_⟩⟩
  ·refine absurd ?_ hr
   rw[regAt,h,show decide (s.1 < l.length)=true from decide_eq_true (by have:=of_decide_eq_true h2;omega),h3];rfl
  all_goals
   refine ⟨[.mut],.bool (downT l s),[some (.pb (tRow l s))],c2,trivial,fun d=>?_,fun d=>?_⟩
   ·rw[if_pos d]
    refine ⟨[.mut,.ro],.tup [],[some (.pb (tRow l (mustT l s ⟨#[45]⟩))),none],c3,trivial,?_⟩
    refine ⟨[.mut],.int .i64 (roundV l (mustT l s ⟨#[45]⟩)).1,[some (.pb (tRow l (roundV l (mustT l s ⟨#[45]⟩)).2))],c4,trivial,?_⟩
    exact ⟨argS0 4 _,.refl _,trivial⟩
   ·rw[if_neg (by rw[d];decide)]
    refine ⟨[.mut,.ro],.bool (seeT l s ⟨#[40]⟩),[some (.pb (tRow l s)),none],c5,trivial,fun e=>?_,fun e=>?_⟩
    ·rw[if_pos e]
     refine ⟨[.mut],.int .i64 (roundV l s).1,[some (.pb (tRow l (roundV l s).2))],c6,trivial,?_⟩
     refine ⟨[.mut,.ro],.bool (seeT l (roundV l s).2 ⟨#[43]⟩),[some (.pb (tRow l (isT l (roundV l s).2 ⟨#[43]⟩))),none],c7,trivial,fun f=>?_,fun f=>?_⟩
     ·rw[if_pos f]
      exact ⟨argS0 2 _,.refl _,trivial⟩
     ·rw[if_neg (by rw[f];decide)]
      exact ⟨argS0 1 _,.refl _,trivial⟩
    ·rw[if_neg (by rw[e];decide)]
     refine ⟨[.mut,.ro],.bool (seeT l s ⟨#[35]⟩),[some (.pb (tRow l (isT l s ⟨#[35]⟩))),none],c8,trivial,fun f=>?_,fun f=>?_⟩
     ·rw[if_pos f]
      refine ⟨[.mut,.ro],.agg (GExpr.ro (readV l 6 (isT l s ⟨#[35]⟩)).1),[some (.pb (tRow l (readV l 6 (isT l s ⟨#[35]⟩)).2)),none],c9,trivial,?_⟩
      exact ⟨argS1 8 0 _,.refl _,trivial⟩
     ·rw[if_neg (by rw[f];decide)]
      refine ⟨[.mut,.ro],.agg (GExpr.ro (readV l 6 s).1),[some (.pb (tRow l (readV l 6 s).2)),none],by rw[i8 f];exact cA,trivial,?_⟩
      refine ⟨[.mut,.ro],.bool (seeT l (readV l 6 s).2 ⟨#[40]⟩),[some (.pb (tRow l (readV l 6 s).2)),none],cB,trivial,fun g=>?_,fun g=>?_⟩
      ·rw[if_pos g]
       refine ⟨[.mut],.int .i64 (roundV l (readV l 6 s).2).1,[some (.pb (tRow l (roundV l (readV l 6 s).2).2))],cC,trivial,?_⟩
       exact ⟨by kernel_rfl,argS1 6 _ _,.refl _,trivial⟩
      ·rw[if_neg (by rw[g];decide)]
       exact ⟨argS1 10 0 _,.refl _,trivial⟩
theorem argS2 (a:GArg):Sim (.agg [.int .i64 a.form,.int .i64 a.reg,.int .i64 a.e.k,.int .i64 a.e.n,.str a.e.s,.ro 4 (GExpr.ros a.e.l)]) (.agg (GArg.ro a)):= .refl _
theorem spec_l13Arg (l:List GToken) (s:TS) (hl:l.length≤1099511627776) (ht:∀ t∈l,okTok t) (hs:okT l s):Con 351 [.pb (tRow l s)] (.agg (GArg.ro (argV l s).1)) [some (.pb (tRow l (argV l s).2))]:=by
 have c1:=spec_l10Is l s ⟨#[64]⟩ hl hs
 have h1:=isT_ok ⟨#[64]⟩ hs
 have c2:=spec_l13Plain l _ hl h1
 have g2:=(plainA_good ht (isT l s ⟨#[64]⟩)).1.2.1
 rw[argV]
 generalize isT l s ⟨#[64]⟩=A at*
 generalize seeT l s ⟨#[64]⟩=b at*
 generalize plainA l A=P at*
 refine con Tryz.func351 ?_
 refine ⟨[.mut,.ro],.bool b,[some (.pb (tRow l A)),none],c1,trivial,?_⟩
 refine ⟨[.mut],.agg (GArg.ro P.1),[some (.pb (tRow l P.2))],c2,trivial,?_⟩
 have e1:IntKind.wrap .i64 (P.1.form+1)=P.1.form+1:=w64 (by omega) (by omega)
 refine ⟨fun h=>?_,fun h=>?_⟩
 ·have h:b=false:=by simpa using h
  rw[if_pos h]
  exact ⟨argS2 _,.refl _,trivial⟩
 ·have h:b=true:=by simpa using h
  rw[if_neg (by rw[h];decide)]
  have yes (k:Int) (hk:k∈([2,4,6,8,10]:List Int)) (e:P.1.form=k):P.1.form∈([2,4,6,8,10]:List Int):=by rw[e];exact hk
  refine ⟨fun h2=>?_,fun h2=>⟨fun h3=>?_,fun h3=>⟨fun h4=>?_,fun h4=>⟨fun h5=>?_,fun h5=>⟨fun h6=>?_,fun h6=>?_⟩⟩⟩⟩⟩
  ·rw[if_pos (yes 2 (by decide) (of_decide_eq_true h2))]
   exact ⟨.of_eq (by rw[e1];rfl),.refl _,trivial⟩
  ·rw[if_pos (yes 4 (by decide) (of_decide_eq_true h3))]
   exact ⟨.of_eq (by rw[e1];rfl),.refl _,trivial⟩
  ·rw[if_pos (yes 6 (by decide) (of_decide_eq_true h4))]
   exact ⟨.of_eq (by rw[e1];rfl),.refl _,trivial⟩
  ·rw[if_pos (yes 8 (by decide) (of_decide_eq_true h5))]
   exact ⟨.of_eq (by rw[e1];rfl),.refl _,trivial⟩
  ·rw[if_pos (yes 10 (by decide) (of_decide_eq_true h6))]
   exact ⟨.of_eq (by rw[e1];rfl),.refl _,trivial⟩
  ·rw[if_neg (by simp only[List.mem_cons,List.not_mem_nil,or_false,not_or];exact ⟨of_decide_eq_false h2,of_decide_eq_false h3,of_decide_eq_false h4,of_decide_eq_false h5,of_decide_eq_false h6⟩)]
   exact ⟨argS2 _,.nb rfl,trivial⟩
end Go.Proofs.VI
