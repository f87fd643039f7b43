/- Contracts of functions, and what they rest on: l10read l10read2. -/
import Derived.Test.YtjlonhiojgljcaaGreatS1
set_option linter.unusedVariables false
set_option linter.unusedSimpArgs false
set_option maxRecDepth 10000
set_option maxHeartbeats 4000000
namespace Go.Proofs.VI
open Go
abbrev TS:=Nat×Bool
def zTok:GToken:=⟨0,0,⟨#[]⟩⟩
def tkAt (l:List GToken) (p:Nat):GToken:=l.getD p zTok
def tRow (l:List GToken) (s:TS):List AV:=[.ro 3 (GToken.ros l),.int .i64 s.1,.bool s.2]
def seeT (l:List GToken) (s:TS) (x:ByteArray):Bool:=!s.2&&(decide (s.1 < l.length)&&decide ((tkAt l s.1).s=x))
def isT (l:List GToken) (s:TS) (x:ByteArray):TS:=if seeT l s x=true then (s.1+1,s.2) else s
def mustT (l:List GToken) (s:TS) (x:ByteArray):TS:=if seeT l s x=true then (s.1+1,s.2) else (s.1,true)
def nextT (l:List GToken) (s:TS):GToken×TS:=if s.2=true∨l.length≤s.1 then (zTok,s.1,true) else (tkAt l s.1,s.1+1,s.2)
theorem tok_row {l:List GToken} {p:Nat} (h:p < l.length):(GToken.ros l)[p]?=some (GToken.ro (tkAt l p)):=by
 rw[tkAt,List.getD_eq_getElem?_getD,List.getElem?_eq_getElem h];exact map_get _ _ h
theorem rost_len (l:List GToken):(GToken.ros l).length=l.length:=by simp
theorem seeT_lt {l:List GToken} {s:TS} {x:ByteArray} (h:seeT l s x=true):s.1 < l.length∧s.2=false∧(tkAt l s.1).s=x:=by
 rw[seeT] at h
 simp only[Bool.and_eq_true,Bool.not_eq_true',decide_eq_true_eq] at h
 exact ⟨h.2.1,h.1,h.2.2⟩
def okT (l:List GToken) (s:TS):Prop:=s.1≤l.length
theorem isT_ok {l:List GToken} {s:TS} (x:ByteArray) (h:okT l s):okT l (isT l s x):=by
 rw[isT];split
 ·rename_i g;exact (seeT_lt g).1
 ·exact h
theorem mustT_ok {l:List GToken} {s:TS} (x:ByteArray) (h:okT l s):okT l (mustT l s x):=by
 rw[mustT];split
 ·rename_i g;exact (seeT_lt g).1
 ·exact h
theorem nextT_ok {l:List GToken} {s:TS} (h:okT l s):okT l (nextT l s).2:=by
 rw[nextT];split
 ·exact h
 ·rename_i g;show s.1+1≤l.length;omega
theorem spec_l10See (l:List GToken) (s:TS) (x:ByteArray) (hl:l.length≤1099511627776):Con 355 [.pb (tRow l s),.str x] (.bool (seeT l s x)) [some (.pb (tRow l s)),none]:=by
 obtain ⟨p,bad⟩:=s
 refine con Tryz.func355 ?_
 refine ⟨fun h=>⟨fun h2=>⟨Int.natCast_nonneg _,_,tok_row ?_,by kernel_rfl,?_⟩,fun h2=>⟨by kernel_rfl,?_⟩⟩,fun h=>⟨by kernel_rfl,?_⟩⟩
 ·have h2:=of_decide_eq_true h2
  rw[rost_len] at h2
  exact Int.ofNat_lt.1 h2
 ·have h:bad=false:=by simpa using h
  have h2:=of_decide_eq_true h2
  rw[rost_len] at h2
  refine ⟨.of_eq (congrArg AV.bool ?_),.refl _,trivial⟩
  rw[seeT,h,decide_eq_true (show (p,false).1 < l.length from Int.ofNat_lt.1 h2)];rfl
 ·have h:bad=false:=by simpa using h
  have h2:=of_decide_eq_false h2
  rw[rost_len] at h2
  refine ⟨.of_eq (congrArg AV.bool ?_),.refl _,trivial⟩
  rw[seeT,decide_eq_false (show ¬ (p,bad).1 < l.length from fun g=>h2 (Int.ofNat_lt.2 g))];simp
 ·have h:bad=true:=by simpa using h
  refine ⟨.of_eq (congrArg AV.bool ?_),.refl _,trivial⟩
  rw[seeT,h];rfl
theorem spec_l10Is (l:List GToken) (s:TS) (x:ByteArray) (hl:l.length≤1099511627776) (hs:okT l s):Con 346 [.pb (tRow l s),.str x] (.bool (seeT l s x)) [some (.pb (tRow l (isT l s x))),none]:=by
 have c:=spec_l10See l s x hl
 obtain ⟨p,bad⟩:=s
 have hp:p≤l.length:=hs
 refine con Tryz.func346 ?_
 refine ⟨[.mut,.ro],.bool (seeT l (p,bad) x),[some (.pb (tRow l (p,bad))),none],c,trivial,fun h=>?_,fun h=>?_⟩<;>simp only[Bool.not_eq_true',Bool.not_eq_false'] at h
 ·exact ⟨.of_eq (by rw[h]),.of_eq (by rw[isT,if_neg (by rw[h];decide)];rfl),trivial⟩
 ·refine ⟨.of_eq (by rw[h]),.of_eq (congrArg AV.pb ?_),trivial⟩
  rw[isT,if_pos h,tRow,w64 (by omega) (by omega)];rfl
theorem spec_l10Must (l:List GToken) (s:TS) (x:ByteArray) (hl:l.length≤1099511627776) (hs:okT l s):Con 352 [.pb (tRow l s),.str x] (.tup []) [some (.pb (tRow l (mustT l s x))),none]:=by
 have c:=spec_l10Is l s x hl hs
 obtain ⟨p,bad⟩:=s
 refine con Tryz.func352 ?_
 refine ⟨[.mut,.ro],.bool (seeT l (p,bad) x),[some (.pb (tRow l (isT l (p,bad) x))),none],c,trivial,fun h=>?_,fun h=>?_⟩<;>simp only[Bool.not_eq_true',Bool.not_eq_false'] at h
 ·have e:isT l (p,bad) x=(p,bad):=by rw[isT,if_neg (by rw[h];decide)]
  refine ⟨.refl _,.nb ?_,trivial⟩
  rw[e,mustT,if_neg (by rw[h];decide)];rfl
 ·have e:isT l (p,bad) x=mustT l (p,bad) x:=by rw[isT,mustT,if_pos h,if_pos h]
  rw[e]
  exact ⟨.refl _,.refl _,trivial⟩
theorem spec_l10Next (l:List GToken) (s:TS) (hl:l.length≤1099511627776) (hs:okT l s):Con 343 [.pb (tRow l s)] (.agg (GToken.ro (nextT l s).1)) [some (.pb (tRow l (nextT l s).2))]:=by
 obtain ⟨p,bad⟩:=s
 have hp:p≤l.length:=hs
 refine con Tryz.func343 ?_
 refine ⟨fun h=>⟨by kernel_rfl,fun h2=>?_,fun h2=>?_⟩,fun h=>⟨by kernel_rfl,?_⟩⟩
 ·have h2:l.length≤p:=by have:=of_decide_eq_true h2;rw[rost_len] at this;exact Int.ofNat_le.1 this
  have e:nextT l (p,bad)=(zTok,p,true):=by rw[nextT,if_pos (.inr h2)]
  rw[e]
  exact ⟨.refl _,.nb rfl,trivial⟩
 ·have h2:p < l.length:=by have:=of_decide_eq_false h2;rw[rost_len] at this;exact Int.ofNat_lt.1 (Int.not_le.1 this)
  have h:bad=false:=h
  have e:nextT l (p,bad)=(tkAt l p,p+1,bad):=by
   rw[nextT,if_neg]
   rintro (g | g)
   ·have g:bad=true:=g
    rw[h] at g;cases g
   ·exact absurd g (Nat.not_le.2 h2)
  rw[e]
  have e1:IntKind.wrap .i64 (IntKind.wrap .i64 ((p:Int)+1) - 1)=(p:Int):=by rw[w64 (x:=(p:Int)+1) (by omega) (by omega),w64 (by omega) (by omega)];omega
  have hrow:(GToken.ros l)[(IntKind.wrap .i64 (IntKind.wrap .i64 ((p:Int)+1) - 1)).toNat]?=some (GToken.ro (tkAt l p)):=by rw[e1,Int.toNat_natCast];exact tok_row h2
  have hge:0≤IntKind.wrap .i64 (IntKind.wrap .i64 ((p:Int)+1) - 1):=by rw[e1];exact Int.natCast_nonneg _
  refine ⟨hge,_,hrow,by kernel_rfl,?_⟩
  refine ⟨.refl _,.of_eq (congrArg AV.pb ?_),trivial⟩
  rw[tRow,←w64 (x:=((p+1:Nat):Int)) (by omega) (by omega)];rfl
 ·have h:bad=true:=h
  have e:nextT l (p,bad)=(zTok,p,true):=by rw[nextT,if_pos (.inl h)]
  rw[e]
  exact ⟨.refl _,.nb rfl,trivial⟩
def zExpr:GExpr:= .mk 0 0 ⟨#[]⟩ []
def signV (k:Int):ByteArray:=if k=5 then ⟨#[43]⟩ else if k=6 then ⟨#[45]⟩ else if k=7 then ⟨#[42]⟩ else if k=8 then ⟨#[47]⟩ else if k=9 then ⟨#[38]⟩ else ⟨#[124]⟩
def signG (x:ByteArray):Nat→Nat→Option Int
 | 0,_=>none
 | f+1,k=>if signV k=x then some (k:Int) else signG x f (k+1)
def signK (x:ByteArray):Option Int:=signG x 6 5
theorem signG_in {x:ByteArray}:∀ {f k:Nat} {n:Int},signG x f k=some n→(k:Int)≤n∧n < k+f
 | 0,_,_,h=>by cases h
 | f+1,k,n,h=>by
  rw[signG] at h
  split at h
  ·injection h with h;omega
  ·have:=signG_in h;omega
def twoT (l:List GToken) (rd:TS→GExpr×TS) (s:TS):GExpr×TS:=
 match signK (nextT l (rd s).2).1.s with
 | some k=>(.mk k 0 ⟨#[]⟩ [(rd s).1,(rd (nextT l (rd s).2).2).1],mustT l (rd (nextT l (rd s).2).2).2 ⟨#[62]⟩)
 | none=>(zExpr,(mustT l (rd (nextT l (rd s).2).2).2 ⟨#[62]⟩).1,true)
def readN (l:List GToken) (rd:TS→GExpr×TS) (t:GToken) (s:TS):GExpr×TS:=
 if t.k=2 then (.mk 1 t.n ⟨#[]⟩ [],s)
 else if t.k=1 then (.mk 2 0 t.s [],s)
 else if t.s=⟨#[46]⟩ then (.mk 3 0 ⟨#[]⟩ [],s)
 else if t.s=⟨#[45]⟩ then (.mk 4 0 ⟨#[]⟩ [(rd s).1],(rd s).2)
 else if t.s=⟨#[60]⟩ then twoT l rd s
 else (zExpr,s.1,true)
def readV (l:List GToken):Nat→TS→GExpr×TS
 | 0,s=>(zExpr,s.1,true)
 | f+1,s=>readN l (readV l f) (nextT l s).1 (nextT l s).2
def okTok (t:GToken):Prop:=(-9223372036854775808≤t.n∧t.n≤9223372036854775807)∧t.s.size≤9223372036854775807
theorem tkAt_ok {l:List GToken} (h:∀ t∈l,okTok t) (p:Nat):okTok (tkAt l p):=by
 rw[tkAt,List.getD_eq_getElem?_getD]
 by_cases hp:p < l.length
 ·rw[List.getElem?_eq_getElem hp];exact h _ (List.getElem_mem hp)
 ·rw[List.getElem?_eq_none (by omega)];exact ⟨by decide,by decide⟩
theorem zTok_ok:okTok zTok:=⟨by decide,by decide⟩
theorem nextT_tok {l:List GToken} (h:∀ t∈l,okTok t) (s:TS):okTok (nextT l s).1:=by
 rw[nextT];split
 ·exact zTok_ok
 ·exact tkAt_ok h _
def termG (e:GExpr):Prop:=GExpr.fit e∧GExpr.ok e
theorem tg_leaf {k n:Int} {s:ByteArray} (hk: -9223372036854775808≤k∧k≤9223372036854775807) (hn: -9223372036854775808≤n∧n≤9223372036854775807) (hs:s.size≤9223372036854775807):termG (.mk k n s []):=
 ⟨⟨by simp,trivial⟩,⟨hk,hn,hs,by simp,trivial⟩⟩
theorem tg_one {k:Int} {a:GExpr} (hk: -9223372036854775808≤k∧k≤9223372036854775807) (h:termG a):termG (.mk k 0 ⟨#[]⟩ [a]):=
 ⟨⟨by simp,h.1,trivial⟩,⟨hk,by decide,by decide,by simp,h.2,trivial⟩⟩
theorem tg_two {k:Int} {a b:GExpr} (hk: -9223372036854775808≤k∧k≤9223372036854775807) (h:termG a) (g:termG b):termG (.mk k 0 ⟨#[]⟩ [a,b]):=
 ⟨⟨by simp,h.1,g.1,trivial⟩,⟨hk,by decide,by decide,by simp,h.2,g.2,trivial⟩⟩
theorem tg_zero:termG zExpr:=tg_leaf (by decide) (by decide) (by decide)
theorem readV_good {l:List GToken} (h:∀ t∈l,okTok t):∀ f s,termG (readV l f s).1
 | 0,s=>tg_zero
 | f+1,s=>by
  have ih:=readV_good h f
  obtain ⟨h1,h2⟩:=nextT_tok h s
  rw[readV,readN]
  split
  ·exact tg_leaf (by decide) h1 (by decide)
  ·split
   ·exact tg_leaf (by decide) (by decide) h2
   ·split
    ·exact tg_leaf (by decide) (by decide) (by decide)
    ·split
     ·exact tg_one (by decide) (ih _)
     ·split
      ·rw[twoT]
       split
       ·rename_i k hk
        have:=signG_in hk
        exact tg_two (by omega) (ih _) (ih _)
       ·exact tg_zero
      ·exact tg_zero
theorem readV_ok {l:List GToken}:∀ f s,okT l s→okT l (readV l f s).2
 | 0,s,h=>h
 | f+1,s,h=>by
  have ih:=fun s h=>readV_ok (l:=l) f s h
  have h1:=nextT_ok h
  have hz:okT l ((nextT l s).2.1,true):=h1
  rw[readV,readN]
  split
  ·exact h1
  ·split
   ·exact h1
   ·split
    ·exact h1
    ·split
     ·exact ih _ h1
     ·split
      ·have h2:=mustT_ok ⟨#[62]⟩ (ih _ (nextT_ok (ih _ h1)))
       rw[twoT]
       split
       ·exact h2
       ·exact h2
      ·exact hz
theorem exprS1 (k n:Int) (s:ByteArray) (L:List GExpr):Sim (.agg [.int .i64 k,.int .i64 n,.str s,.ow 4 (GExpr.ros L)]) (.agg (GExpr.ro (.mk k n s L))):=by
 refine .trans (.frz _) (.of_eq ?_)
 show AV.agg [.int .i64 k,.int .i64 n,.str s,.ro 4 (toRoRows (GExpr.ros L))]=_
 rw[GExpr.ror];rfl
theorem ro_cells (a:GExpr): [AV.int .i64 a.k,AV.int .i64 a.n,AV.str a.s,AV.ro 4 (GExpr.ros a.l)]=GExpr.ro a:=by
 cases a;rfl
theorem exprSr {k n:Int} {s:ByteArray} {L:List GExpr} {R:List (List AV)} (h:R=GExpr.ros L):Sim (.agg [.int .i64 k,.int .i64 n,.str s,.ow 4 R]) (.agg (GExpr.ro (.mk k n s L))):=by
 rw[h];exact exprS1 k n s L
theorem exprS0 (k n:Int) (s:ByteArray):Sim (.agg [.int .i64 k,.int .i64 n,.str s,.nils]) (.agg (GExpr.ro (.mk k n s []))):=by
 show Sim (.agg [.int .i64 k,.int .i64 n,.str s,.nils]) (.agg [.int .i64 k,.int .i64 n,.str s,.ro 4 []])
 exact .agg (.cons (.refl _) (.cons (.refl _) (.cons (.refl _) (.cons (.nilr 4) (.refl _)))))
theorem spec_l10Sign (k:Int):Con 358 [.int .i64 k] (.str (signV k)) [none]:=by
 refine con Tryz.func358 ?_
 repeat' (first | refine And.intro (fun (h:_=true)=>?_) (fun (h:_=false)=>?_) | refine And.intro (fun (h:_=false)=>?_) (fun (h:_=true)=>?_) | refine And.intro (show regOk _ _=true from by kernel_rfl) ?_ | refine And.intro (Sim.of_eq (congrArg AV.str ?_)) trivial | fail)
 all_goals simp_all[signV]
theorem spec_l10Two (l:List GToken) (hl:l.length≤1099511627776) (f:Nat) (hf:f≤5) (ih:∀ s,okT l s→Con 347 [.pb (tRow l s),.int .i64 (7 - f)] (.agg (GExpr.ro (readV l f s).1)) [some (.pb (tRow l (readV l f s).2)),none]) (s:TS) (hs:okT l s):Con 356 [.pb (tRow l s),.int .i64 (6 - f)] (.agg (GExpr.ro (twoT l (readV l f) s).1)) [some (.pb (tRow l (twoT l (readV l f) s).2)),none]:=by
 have e1:IntKind.wrap .i64 ((6:Int) - f+1)=7 - f:=by rw[w64 (by omega) (by omega)];omega
 have h1:=readV_ok f s hs
 have c2:=spec_l10Next l (readV l f s).2 hl h1
 have h2:=nextT_ok h1
 have c3:=ih _ h2
 have h3:=readV_ok f _ h2
 have c4:=spec_l10Must l (readV l f (nextT l (readV l f s).2).2).2 ⟨#[62]⟩ hl h3
 have c1:=ih _ hs
 rw[twoT]
 generalize readV l f s=A at*
 generalize nextT l A.2=B at*
 generalize readV l f B.2=C at*
 generalize mustT l C.2 ⟨#[62]⟩=D at*
 refine con Tryz.func356 ?_
 refine ⟨[.mut,.ro],.agg (GExpr.ro A.1),[some (.pb (tRow l A.2)),none],by rw[e1];exact c1,trivial,?_⟩
 refine ⟨[.mut],.agg (GToken.ro B.1),[some (.pb (tRow l B.2))],c2,trivial,?_⟩
 refine ⟨[.mut,.ro],.agg (GExpr.ro C.1),[some (.pb (tRow l C.2)),none],by rw[e1];exact c3,trivial,?_⟩
 refine ⟨[.mut,.ro],.tup [],[some (.pb (tRow l D)),none],c4,trivial,?_⟩
 refine ⟨{t:Nat×Nat // t.1+t.2=11∧5≤t.2∧signG B.1.s t.1 t.2=signK B.1.s},fun t=>⟨[(0,.ptr 0 0 0),(4,.ptr 1 0 0),(5,.ptr 2 0 0),(6,.str B.1.s),(7,.ptr 3 0 0),(8,.int .i64 t.1.2)],[(0,.box (tRow l D) []),(1,.box GExpr.zero []),(2,.box (GExpr.ro A.1) []),(3,.box (GExpr.ro C.1) [])]⟩,fun t=>t.1.1,⟨(6,5),rfl,Nat.le_refl _,rfl⟩,?_,?_⟩
 ·exact ⟨rfl,rfl,rfl,rfl,rfl,rfl,rfl,rfl,rfl,rfl,.refl _,.refl _,.refl _,.refl _,trivial⟩
 ·rintro ⟨⟨g,k⟩,q1,q2,q3⟩
  dsimp only at q1 q2 q3⊢
  refine ⟨fun h=>?_,fun h=>?_⟩<;>simp only[decide_eq_true_eq,decide_eq_false_iff_not] at h
  ·obtain ⟨g',rfl⟩:∃ g',g=g'+1:=⟨g - 1,by omega⟩
   rw[signG] at q3
   refine ⟨[.ro],.str (signV k),[none],spec_l10Sign k,trivial,fun h4=>?_,fun h4=>?_⟩<;>simp only[decide_eq_true_eq,decide_eq_false_iff_not] at h4
   ·rw[if_pos h4] at q3
    rw[show signK B.1.s=some (k:Int) from q3.symm]
    dsimp only
    exact ⟨exprSr (L:=[A.1,C.1]) (by rw[ro_cells,ro_cells];rw[GExpr.ros_eq];rfl),.refl _,trivial⟩
   ·rw[if_neg h4] at q3
    exact ⟨⟨(g',k+1),by omega,by omega,q3⟩,Nat.lt_succ_self _,rfl,rfl,rfl,rfl,rfl,rfl,rfl,rfl,rfl,congrArg (AV.int .i64) (w64 (by omega) (by omega)),.refl _,.refl _,.refl _,.refl _,trivial⟩
  ·have g0:g=0:=by omega
   subst g0
   rw[show signK B.1.s=none from q3.symm]
   dsimp only
   exact ⟨exprS0 0 0 ⟨#[]⟩,.nb rfl,trivial⟩
theorem spec_l10Read (l:List GToken) (hl:l.length≤1099511627776):∀ f,f≤6→∀ s,okT l s→Con 347 [.pb (tRow l s),.int .i64 (7 - (f:Nat))] (.agg (GExpr.ro (readV l f s).1)) [some (.pb (tRow l (readV l f s).2)),none]
 | 0,_,s,hs=>by
  refine con Tryz.func347 ?_
  refine ⟨fun h=>?_,fun h=>absurd h (by decide)⟩
  exact ⟨exprS0 0 0 ⟨#[]⟩,.nb rfl,trivial⟩
 | f+1,hf,s,hs=>by
  have ih:=fun s hs=>spec_l10Read l hl f (by omega) s hs
  have e1:IntKind.wrap .i64 ((7:Int) - ((f+1:Nat):Int)+1)=7 - f:=by rw[w64 (by omega) (by omega)];omega
  have e2:(7:Int) - ((f+1:Nat):Int)=6 - f:=by omega
  have c1:=spec_l10Next l s hl hs
  have h1:=nextT_ok hs
  have cR:=ih _ h1
  have cT:=spec_l10Two l hl f (by omega) ih _ h1
  rw[readV]
  generalize nextT l s=B at*
  obtain ⟨t,s1⟩:=B
  dsimp only at c1 h1 cR cT⊢
  refine con Tryz.func347 ?_
  refine ⟨fun h=>absurd (of_decide_eq_true h) (by omega),fun h=>?_⟩
  refine ⟨[.mut],.agg (GToken.ro t),[some (.pb (tRow l s1))],c1,trivial,?_⟩
  refine ⟨fun h2=>?_,fun h2=>⟨fun h3=>?_,fun h3=>⟨fun h4=>?_,fun h4=>⟨fun h5=>?_,fun h5=>⟨fun h6=>?_,fun h6=>?_⟩⟩⟩⟩⟩
  ·rw[readN,if_pos (of_decide_eq_true h2)]
   exact ⟨exprS0 1 t.n ⟨#[]⟩,.refl _,trivial⟩
  ·rw[readN,if_neg (of_decide_eq_false h2),if_pos (of_decide_eq_true h3)]
   exact ⟨exprS0 2 0 t.s,.refl _,trivial⟩
  ·rw[readN,if_neg (of_decide_eq_false h2),if_neg (of_decide_eq_false h3),if_pos (of_decide_eq_true h4)]
   exact ⟨exprS0 3 0 ⟨#[]⟩,.refl _,trivial⟩
  ·rw[readN,if_neg (of_decide_eq_false h2),if_neg (of_decide_eq_false h3),if_neg (of_decide_eq_false h4),if_pos (of_decide_eq_true h5)]
   refine ⟨[.mut,.ro],.agg (GExpr.ro (readV l f s1).1),[some (.pb (tRow l (readV l f s1).2)),none],by rw[e1];exact cR,trivial,?_⟩
   exact ⟨exprSr (L:=[(readV l f s1).1]) (by rw[ro_cells];rw[GExpr.ros_eq];rfl),.refl _,trivial⟩
  ·rw[readN,if_neg (of_decide_eq_false h2),if_neg (of_decide_eq_false h3),if_neg (of_decide_eq_false h4),if_neg (of_decide_eq_false h5),if_pos (of_decide_eq_true h6)]
   refine ⟨[.mut,.ro],.agg (GExpr.ro (twoT l (readV l f) s1).1),[some (.pb (tRow l (twoT l (readV l f) s1).2)),none],by rw[e2];exact cT,trivial,?_⟩
   exact ⟨.refl _,.refl _,trivial⟩
  ·rw[readN,if_neg (of_decide_eq_false h2),if_neg (of_decide_eq_false h3),if_neg (of_decide_eq_false h4),if_neg (of_decide_eq_false h5),if_neg (of_decide_eq_false h6)]
   exact ⟨exprS0 0 0 ⟨#[]⟩,.nb rfl,trivial⟩
end Go.Proofs.VI
