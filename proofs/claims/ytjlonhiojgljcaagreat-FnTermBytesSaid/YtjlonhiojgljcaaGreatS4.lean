/- Contracts of functions, and what they rest on: l13line l13lines l13of. -/
import Derived.Test.YtjlonhiojgljcaaGreatS3
set_option linter.unusedVariables false
set_option linter.unusedSimpArgs false
set_option maxRecDepth 10000
set_option maxHeartbeats 4000000
namespace Go.Proofs.VI
open Go
theorem mustT_up (l:List GToken) (s:TS) (x:ByteArray):s.1≤(mustT l s x).1:=by
 rw[mustT];split
 ·exact Nat.le_succ _
 ·exact Nat.le_refl _
theorem nextT_up (l:List GToken) (s:TS):s.1≤(nextT l s).2.1:=by
 rw[nextT];split
 ·exact Nat.le_refl _
 ·exact Nat.le_succ _
theorem readV_up (l:List GToken):∀ f s,s.1≤(readV l f s).2.1
 | 0,s=>Nat.le_refl _
 | f+1,s=>by
  have ih:=readV_up l f
  have h1:=nextT_up l s
  rw[readV,readN]
  split
  ·exact h1
  ·split
   ·exact h1
   ·split
    ·exact h1
    ·split
     ·exact Nat.le_trans h1 (ih _)
     ·split
      ·have h2:=Nat.le_trans h1 (Nat.le_trans (ih _) (Nat.le_trans (nextT_up l _) (Nat.le_trans (ih _) (mustT_up l _ ⟨#[62]⟩))))
       rw[twoT]
       split
       ·exact h2
       ·exact h2
      ·exact h1
def listG (l:List GToken):Nat→TS→List GExpr→List GExpr×TS
 | 0,s,out=>(out,s)
 | f+1,s,out=>if s.2=true then (out,s) else if seeT l (readV l 6 s).2 ⟨#[44]⟩=true then listG l f (isT l (readV l 6 s).2 ⟨#[44]⟩) (out++[(readV l 6 s).1]) else (out++[(readV l 6 s).1],isT l (readV l 6 s).2 ⟨#[44]⟩)
def listV (l:List GToken) (s:TS):List GExpr×TS:=listG l (l.length+1) s []
def listP (l:List GToken) (r:List GExpr×TS):Prop:=okT l r.2∧(∀ e∈r.1,termG e)∧r.1.length≤l.length+1
theorem listG_ok {l:List GToken} (h:∀ t∈l,okTok t):∀ f s out,okT l s→(∀ e∈out,termG e)→out.length≤s.1→listP l (listG l f s out)
 | 0,s,out,hs,ho,hn=>⟨hs,ho,by have:s.1≤l.length:=hs;show out.length≤_;omega⟩
 | f+1,s,out,hs,ho,hn=>by
  have h1:=readV_ok 6 _ hs
  have h2:=isT_ok ⟨#[44]⟩ h1
  have h3:∀ e∈out++[(readV l 6 s).1],termG e:=fun e he=>by
   rcases List.mem_append.1 he with g | g
   ·exact ho e g
   ·rw[List.mem_singleton.1 g];exact readV_good h 6 s
  have h4:=readV_up l 6 s
  have hl:s.1≤l.length:=hs
  rw[listG]
  split
  ·exact ⟨hs,ho,by show out.length≤_;omega⟩
  ·split
   ·rename_i g
    refine listG_ok h f _ _ h2 h3 ?_
    rw[isT,if_pos g,List.length_append,List.length_singleton]
    show _≤(readV l 6 s).2.1+1;omega
   ·refine ⟨h2,h3,?_⟩
    show (out++_).length≤_
    rw[List.length_append,List.length_singleton];omega
theorem listV_ok {l:List GToken} (h:∀ t∈l,okTok t) {s:TS} (hs:okT l s):listP l (listV l s):=listG_ok h _ s [] hs (fun e he=>absurd he (List.not_mem_nil)) (Nat.zero_le _)
def zArg:GArg:=⟨0,0,zExpr⟩
def zLine:GLine:=⟨0,⟨#[]⟩,0,zArg,zArg,0,[]⟩
def insV (l:List GToken) (s:TS) (op:Int):GLine×TS:=
 if op≤6 then (⟨3,⟨#[]⟩,op,(argV l s).1,(argV l (mustT l (argV l s).2 ⟨#[44]⟩)).1,0,[]⟩,(argV l (mustT l (argV l s).2 ⟨#[44]⟩)).2)
 else if op≤14 then (⟨3,⟨#[]⟩,op,zArg,(argV l s).1,0,[]⟩,(argV l s).2)
 else if op=15 then (⟨3,⟨#[]⟩,op,zArg,(argV l (mustT l (nextT l s).2 ⟨#[44]⟩)).1,regK (nextT l s).1,[]⟩,(argV l (mustT l (nextT l s).2 ⟨#[44]⟩)).2)
 else if op=16 then (⟨3,⟨#[]⟩,op,zArg,zArg,regK (nextT l s).1,[]⟩,(nextT l s).2)
 else if op≠22 then (⟨3,⟨#[]⟩,op,zArg,zArg,0,[(readV l 6 s).1]⟩,(readV l 6 s).2)
 else (⟨3,⟨#[]⟩,op,zArg,zArg,0,[]⟩,s)
def dotL (l:List GToken) (s:TS) (w:ByteArray):GLine×TS:=
 if w=⟨#[46,119,111,114,100]⟩ then (⟨4,⟨#[]⟩,0,zArg,zArg,0,(listV l s).1⟩,(listV l s).2)
 else if w=⟨#[46,98,108,107,119]⟩ then (⟨5,⟨#[]⟩,0,zArg,zArg,0,(listV l s).1⟩,(listV l s).2)
 else if w=⟨#[46,103,108,111,98,108]⟩ then (⟨7,⟨#[]⟩,0,zArg,zArg,0,(listV l s).1⟩,(listV l s).2)
 else if w=⟨#[46,101,110,100]⟩ then (⟨8,⟨#[]⟩,0,zArg,zArg,0,[]⟩,s)
 else if w=⟨#[46,115,101,99,116]⟩ then (if seeT l (nextT l s).2 ⟨#[44]⟩=true then (⟨6,(nextT l s).1.s,0,zArg,zArg,1,[]⟩,mustT l (isT l (nextT l s).2 ⟨#[44]⟩) ⟨#[111,118,101,114]⟩) else (⟨6,(nextT l s).1.s,0,zArg,zArg,0,[]⟩,isT l (nextT l s).2 ⟨#[44]⟩))
 else (zLine,s.1,true)
def lineN (l:List GToken) (t:GToken) (s:TS):GLine×TS:=
 if t.k=5 then (if placeOf kW t.s < 23 then insV l s (placeOf kW t.s+1) else (zLine,s.1,true))
 else if t.k=3 then dotL l s t.s
 else if t.k=1 then (if seeT l s ⟨#[58]⟩=true then (⟨1,t.s,0,zArg,zArg,0,[]⟩,isT l s ⟨#[58]⟩) else if seeT l s ⟨#[61]⟩=true then (⟨2,t.s,0,zArg,zArg,0,[(readV l 6 (isT l s ⟨#[61]⟩)).1]⟩,(readV l 6 (isT l s ⟨#[61]⟩)).2) else (zLine,s.1,true))
 else (zLine,s.1,true)
def lineL (l:List GToken) (s:TS):GLine×TS:=lineN l (nextT l s).1 (nextT l s).2
def ofL (l:List GToken):Option GLine:=if l.length=0 then some zLine else if (lineL l (0,false)).2.2=true∨(lineL l (0,false)).2.1≠l.length∨lineE (lineL l (0,false)).1=false then none else some (lineL l (0,false)).1
def lineG (x:GLine):Prop:=((0≤x.k∧x.k≤8)∧(0≤x.op∧x.op≤23)∧(-1≤x.n∧x.n≤7)∧x.s.size≤9223372036854775807)∧(argG x.src∧argG x.dst)∧(∀ e∈x.l,termG e)∧x.l.length≤1099511627776
theorem zArg_good:argG zArg:=⟨tg_zero,by decide,by decide⟩
theorem lineG_fit {x:GLine} (h:lineG x):GLine.fit x:=⟨h.2.1.1.1.1,h.2.1.2.1.1,h.2.2.2,fun e he=>(h.2.2.1 e he).1⟩
theorem lineG_ok {x:GLine} (h:lineG x):GLine.ok x:=by
 obtain ⟨⟨h1,h2,h3,h4⟩,⟨h5,h6⟩,h7,h8⟩:=h
 exact ⟨by omega,h4,by omega,argG_ok h5,argG_ok h6,by omega,by omega,fun e he=>(h7 e he).2⟩
theorem lg {k op n:Int} {s:ByteArray} {a b:GArg} {l:List GExpr} (hk:0≤k∧k≤8) (ho:0≤op∧op≤23) (hn: -1≤n∧n≤7) (hs:s.size≤9223372036854775807) (ha:argG a) (hb:argG b) (hl:(∀ e∈l,termG e)∧l.length≤1099511627776):lineG ⟨k,s,op,a,b,n,l⟩:=⟨⟨hk,ho,hn,hs⟩,⟨ha,hb⟩,hl⟩
theorem lg_nil:(∀ e∈([]:List GExpr),termG e)∧([]:List GExpr).length≤1099511627776:=⟨fun e he=>absurd he (List.not_mem_nil),Nat.zero_le _⟩
theorem lg_one {e:GExpr} (h:termG e):(∀ x∈ [e],termG x)∧ [e].length≤1099511627776:=⟨fun x hx=>by rw[List.mem_singleton.1 hx];exact h,by simp⟩
theorem zLine_good:lineG zLine:=lg (k:=0) (op:=0) (n:=0) (by decide) (by decide) (by decide) (by decide) zArg_good zArg_good lg_nil
def lineP (l:List GToken) (r:GLine×TS):Prop:=lineG r.1∧okT l r.2
theorem insV_good {l:List GToken} (h:∀ t∈l,okTok t) (hl:l.length≤1099511627775) {s:TS} (hs:okT l s) {op:Int} (ho:0≤op∧op≤23):lineP l (insV l s op):=by
 have z:((⟨#[]⟩:ByteArray)).size≤9223372036854775807:=by decide
 have a:=fun s=>argV_good h s
 have aok:=fun s=>@argV_ok l s
 rw[insV]
 split
 ·exact ⟨lg (k:=3) (n:=0) (by decide) ho (by decide) z (a _) (a _) lg_nil,aok _ (mustT_ok _ (aok _ hs))⟩
 ·split
  ·exact ⟨lg (k:=3) (n:=0) (by decide) ho (by decide) z zArg_good (a _) lg_nil,aok _ hs⟩
  ·split
   ·exact ⟨lg (k:=3) (by decide) ho (regK_in _) z zArg_good (a _) lg_nil,aok _ (mustT_ok _ (nextT_ok hs))⟩
   ·split
    ·exact ⟨lg (k:=3) (by decide) ho (regK_in _) z zArg_good zArg_good lg_nil,nextT_ok hs⟩
    ·split
     ·exact ⟨lg (k:=3) (n:=0) (by decide) ho (by decide) z zArg_good zArg_good (lg_one (readV_good h 6 _)),readV_ok 6 _ hs⟩
     ·exact ⟨lg (k:=3) (n:=0) (by decide) ho (by decide) z zArg_good zArg_good lg_nil,hs⟩
theorem dotL_good {l:List GToken} (h:∀ t∈l,okTok t) (hl:l.length≤1099511627775) {s:TS} (hs:okT l s) (w:ByteArray):lineP l (dotL l s w):=by
 have z:((⟨#[]⟩:ByteArray)).size≤9223372036854775807:=by decide
 obtain ⟨l1,l2,l3⟩:=listV_ok h hs
 have tt:=nextT_tok h s
 rw[dotL]
 split
 ·exact ⟨lg (k:=4) (op:=0) (n:=0) (by decide) (by decide) (by decide) z zArg_good zArg_good ⟨l2,by omega⟩,l1⟩
 ·split
  ·exact ⟨lg (k:=5) (op:=0) (n:=0) (by decide) (by decide) (by decide) z zArg_good zArg_good ⟨l2,by omega⟩,l1⟩
  ·split
   ·exact ⟨lg (k:=7) (op:=0) (n:=0) (by decide) (by decide) (by decide) z zArg_good zArg_good ⟨l2,by omega⟩,l1⟩
   ·split
    ·exact ⟨lg (k:=8) (op:=0) (n:=0) (by decide) (by decide) (by decide) z zArg_good zArg_good lg_nil,hs⟩
    ·split
     ·split
      ·exact ⟨lg (k:=6) (op:=0) (n:=1) (by decide) (by decide) (by decide) tt.2 zArg_good zArg_good lg_nil,mustT_ok _ (isT_ok _ (nextT_ok hs))⟩
      ·exact ⟨lg (k:=6) (op:=0) (n:=0) (by decide) (by decide) (by decide) tt.2 zArg_good zArg_good lg_nil,isT_ok _ (nextT_ok hs)⟩
     ·exact ⟨zLine_good,hs⟩
theorem lineN_good {l:List GToken} (h:∀ t∈l,okTok t) (hl:l.length≤1099511627775) {s:TS} (hs:okT l s) {t:GToken} (ht:okTok t):lineP l (lineN l t s):=by
 have hp:=placeOf_in kW t.s
 rw[lineN]
 split
 ·split
  ·exact insV_good h hl hs (by omega)
  ·exact ⟨zLine_good,hs⟩
 ·split
  ·exact dotL_good h hl hs _
  ·split
   ·split
    ·exact ⟨lg (k:=1) (op:=0) (n:=0) (by decide) (by decide) (by decide) ht.2 zArg_good zArg_good lg_nil,isT_ok _ hs⟩
    ·split
     ·exact ⟨lg (k:=2) (op:=0) (n:=0) (by decide) (by decide) (by decide) ht.2 zArg_good zArg_good (lg_one (readV_good h 6 _)),readV_ok 6 _ (isT_ok _ hs)⟩
     ·exact ⟨zLine_good,hs⟩
   ·exact ⟨zLine_good,hs⟩
theorem lineL_good {l:List GToken} (h:∀ t∈l,okTok t) (hl:l.length≤1099511627775) {s:TS} (hs:okT l s):lineP l (lineL l s):=lineN_good h hl (nextT_ok hs) (nextT_tok h s)
theorem ofL_good {l:List GToken} (h:∀ t∈l,okTok t) (hl:l.length≤1099511627775) {x:GLine} (hx:ofL l=some x):lineG x:=by
 rw[ofL] at hx
 split at hx
 ·injection hx with hx;rw[←hx];exact zLine_good
 ·split at hx
  ·cases hx
  ·injection hx with hx;rw[←hx];exact (lineL_good h hl (Nat.zero_le _)).1
theorem row_cat (a:List GExpr) (e:GExpr):GExpr.ros a++[[AV.int .i64 e.k,AV.int .i64 e.n,AV.str e.s,AV.ro 4 (GExpr.ros e.l)]]=GExpr.ros (a++[e]):=by
 rw[ro_cells,GExpr.ros_eq,GExpr.ros_eq,List.map_append];rfl
theorem spec_l13List (l:List GToken) (s:TS) (hl:l.length≤1099511627775) (hs:okT l s):Con 354 [.pb (tRow l s)] (.ro 4 (GExpr.ros (listV l s).1)) [some (.pb (tRow l (listV l s).2))]:=by
 refine con Tryz.func354 ?_
 refine ⟨{t:Bool×Nat×TS×List GExpr // okT l t.2.2.1∧(t.1=true→l.length < t.2.1+t.2.2.1.1∧t.2.2.2.length≤t.2.2.1.1∧listG l t.2.1 t.2.2.1 t.2.2.2=listV l s)∧(t.1=false→(t.2.2.2,t.2.2.1)=listV l s)},fun t=>⟨[(0,.ptr 0 0 0),(3,.own 1),(4,.bool t.1.1)],[(0,.box (tRow l t.1.2.2.1) []),(1,.rows 4 (GExpr.ros t.1.2.2.2) [])]⟩,fun t=>bif t.1.1 then t.1.2.1+1 else 0,⟨(true,l.length+1,s,[]),hs,fun _=>⟨by show _ < _+1+_;omega,Nat.zero_le _,rfl⟩,fun h=>by cases h⟩,?_,?_⟩
 ·exact ⟨rfl,rfl,rfl,.refl _,rfl,.refl _,trivial⟩
 ·rintro ⟨⟨again,f,p,out⟩,h1,h2,h3⟩
  dsimp only at h1 h2 h3⊢
  have h1':p.1≤l.length:=h1
  have c1:=spec_l10Read l (by omega) 6 (by decide) p h1
  have k1:=readV_ok 6 _ h1
  have u1:=readV_up l 6 p
  have c2:=spec_l10Is l (readV l 6 p).2 ⟨#[44]⟩ (by omega) k1
  have k2:=isT_ok ⟨#[44]⟩ k1
  refine ⟨fun h=>⟨fun h4=>?_,fun h4=>?_⟩,fun h=>?_⟩
  ·have h:again=true:=h
   have h4:p.2=false:=by simpa using h4
   obtain ⟨q1,q2,q3⟩:=h2 h
   have hlo:(GExpr.ros out).length=out.length:=ros_len out
   obtain ⟨g,rfl⟩:∃ g,f=g+1:=⟨f - 1,by omega⟩
   rw[listG,if_neg (by rw[h4];decide)] at q3
   refine ⟨[.mut,.ro],.agg (GExpr.ro (readV l 6 p).1),[some (.pb (tRow l (readV l 6 p).2)),none],c1,trivial,?_⟩
   refine ⟨trivial,(by show ((GExpr.ros out).length+1)*56≤_;rw[hlo];omega),⟨⟨trivial,trivial,trivial,trivial,trivial⟩,trivial⟩,?_⟩
   refine ⟨[.mut,.ro],.bool (seeT l (readV l 6 p).2 ⟨#[44]⟩),[some (.pb (tRow l (isT l (readV l 6 p).2 ⟨#[44]⟩))),none],c2,trivial,?_⟩
   refine ⟨⟨(seeT l (readV l 6 p).2 ⟨#[44]⟩,g,isT l (readV l 6 p).2 ⟨#[44]⟩,out++[(readV l 6 p).1]),k2,fun hb=>?_,fun hb=>?_⟩,?_,rfl,rfl,rfl,.refl _,rfl,.of_eq (row_cat out _),trivial⟩
   ·have hb:seeT l (readV l 6 p).2 ⟨#[44]⟩=true:=hb
    rw[if_pos hb] at q3
    have e:(isT l (readV l 6 p).2 ⟨#[44]⟩).1=(readV l 6 p).2.1+1:=by rw[isT,if_pos hb]
    dsimp only
    rw[e,List.length_append,List.length_singleton]
    exact ⟨by omega,by omega,q3⟩
   ·have hb:seeT l (readV l 6 p).2 ⟨#[44]⟩=false:=hb
    rw[if_neg (by rw[hb];decide)] at q3
    exact q3
   ·rw[h]
    show (bif seeT l (readV l 6 p).2 ⟨#[44]⟩ then g+1 else 0) < g+1+1
    cases seeT l (readV l 6 p).2 ⟨#[44]⟩
    ·exact Nat.succ_pos _
    ·exact Nat.lt_succ_self _
  ·have h:again=true:=h
   have h4:p.2=true:=by simpa using h4
   obtain ⟨q1,q2,q3⟩:=h2 h
   obtain ⟨g,rfl⟩:∃ g,f=g+1:=⟨f - 1,by omega⟩
   rw[listG,if_pos h4] at q3
   rw[←q3]
   exact ⟨.trans (.frz _) (.of_eq (congrArg (AV.ro 4) (GExpr.ror _))),.refl _,trivial⟩
  ·have h:again=false:=h
   rw[←h3 h]
   exact ⟨.trans (.frz _) (.of_eq (congrArg (AV.ro 4) (GExpr.ror _))),.refl _,trivial⟩
theorem lineS {k s op f1 r1 k1 n1 s1 f2 r2 k2 n2 s2 n c1 c2 c3 d1 d2 d3:AV} (h1:Sim c1 d1) (h2:Sim c2 d2) (h3:Sim c3 d3):Sim (.agg [k,s,op,f1,r1,k1,n1,s1,c1,f2,r2,k2,n2,s2,c2,n,c3]) (.agg [k,s,op,f1,r1,k1,n1,s1,d1,f2,r2,k2,n2,s2,d2,n,d3]):=
 .agg (.cons (.refl _) (.cons (.refl _) (.cons (.refl _) (.cons (.refl _) (.cons (.refl _) (.cons (.refl _) (.cons (.refl _) (.cons (.refl _) (.cons h1 (.cons (.refl _) (.cons (.refl _) (.cons (.refl _) (.cons (.refl _) (.cons (.refl _) (.cons h2 (.cons (.refl _) (.cons h3 (.refl _))))))))))))))))))
theorem oneS (e:GExpr):Sim (.ow 4 [[AV.int .i64 e.k,AV.int .i64 e.n,AV.str e.s,AV.ro 4 (GExpr.ros e.l)]]) (.ro 4 (GExpr.ros [e])):=by
 rw[ro_cells]
 refine .trans (.frz _) (.of_eq ?_)
 have:=GExpr.ror [e]
 rw[GExpr.ros_eq] at this⊢
 exact congrArg (AV.ro 4) this
theorem spec_l13Ins (l:List GToken) (s:TS) (op:Int) (hl:l.length≤1099511627775) (ht:∀ t∈l,okTok t) (hs:okT l s):Con 344 [.pb (tRow l s),.int .i64 op] (.agg (GLine.ro (insV l s op).1)) [some (.pb (tRow l (insV l s op).2)),none]:=by
 have hl2:l.length≤1099511627776:=by omega
 rw[insV]
 refine con Tryz.func344 ?_
 refine ⟨fun h=>?_,fun h=>⟨fun h2=>?_,fun h2=>⟨fun h3=>?_,fun h3=>⟨fun h4=>?_,fun h4=>⟨fun h5=>?_,fun h5=>?_⟩⟩⟩⟩⟩
 ·rw[if_pos (of_decide_eq_true h)]
  have c1:=spec_l13Arg l s hl2 ht hs
  have k1:=argV_ok hs
  have c2:=spec_l10Must l _ ⟨#[44]⟩ hl2 k1
  have k2:=mustT_ok ⟨#[44]⟩ k1
  have c3:=spec_l13Arg l _ hl2 ht k2
  refine ⟨[.mut],.agg (GArg.ro (argV l s).1),[some (.pb (tRow l (argV l s).2))],c1,trivial,?_⟩
  refine ⟨[.mut,.ro],.tup [],[some (.pb (tRow l (mustT l (argV l s).2 ⟨#[44]⟩))),none],c2,trivial,?_⟩
  refine ⟨[.mut],.agg (GArg.ro (argV l (mustT l (argV l s).2 ⟨#[44]⟩)).1),[some (.pb (tRow l (argV l (mustT l (argV l s).2 ⟨#[44]⟩)).2))],c3,trivial,?_⟩
  exact ⟨lineS (.refl _) (.refl _) (.nilr 4),.refl _,trivial⟩
 ·rw[if_neg (of_decide_eq_false h),if_pos (of_decide_eq_true h2)]
  refine ⟨[.mut],.agg (GArg.ro (argV l s).1),[some (.pb (tRow l (argV l s).2))],spec_l13Arg l s hl2 ht hs,trivial,?_⟩
  exact ⟨lineS (.nilr 4) (.refl _) (.nilr 4),.refl _,trivial⟩
 ·rw[if_neg (of_decide_eq_false h),if_neg (of_decide_eq_false h2),if_pos (of_decide_eq_true h3)]
  have k1:=nextT_ok hs
  have k2:=mustT_ok ⟨#[44]⟩ k1
  refine ⟨[.mut],.agg (GToken.ro (nextT l s).1),[some (.pb (tRow l (nextT l s).2))],spec_l10Next l s hl2 hs,trivial,?_⟩
  refine ⟨[.ro],.int .i64 (regK (nextT l s).1),[none],spec_l13Reg _,trivial,?_⟩
  refine ⟨[.mut,.ro],.tup [],[some (.pb (tRow l (mustT l (nextT l s).2 ⟨#[44]⟩))),none],spec_l10Must l _ _ hl2 k1,trivial,?_⟩
  refine ⟨[.mut],.agg (GArg.ro (argV l (mustT l (nextT l s).2 ⟨#[44]⟩)).1),[some (.pb (tRow l (argV l (mustT l (nextT l s).2 ⟨#[44]⟩)).2))],spec_l13Arg l _ hl2 ht k2,trivial,?_⟩
  exact ⟨lineS (.nilr 4) (.refl _) (.nilr 4),.refl _,trivial⟩
 ·rw[if_neg (of_decide_eq_false h),if_neg (of_decide_eq_false h2),if_neg (of_decide_eq_false h3),if_pos (of_decide_eq_true h4)]
  refine ⟨[.mut],.agg (GToken.ro (nextT l s).1),[some (.pb (tRow l (nextT l s).2))],spec_l10Next l s hl2 hs,trivial,?_⟩
  refine ⟨[.ro],.int .i64 (regK (nextT l s).1),[none],spec_l13Reg _,trivial,?_⟩
  exact ⟨lineS (.nilr 4) (.nilr 4) (.nilr 4),.refl _,trivial⟩
 ·rw[if_neg (of_decide_eq_false h),if_neg (of_decide_eq_false h2),if_neg (of_decide_eq_false h3),if_neg (of_decide_eq_false h4),if_pos (of_decide_eq_true h5)]
  refine ⟨[.mut,.ro],.agg (GExpr.ro (readV l 6 s).1),[some (.pb (tRow l (readV l 6 s).2)),none],spec_l10Read l hl2 6 (by decide) _ hs,trivial,?_⟩
  exact ⟨lineS (.nilr 4) (.nilr 4) (oneS _),.refl _,trivial⟩
 ·rw[if_neg (of_decide_eq_false h),if_neg (of_decide_eq_false h2),if_neg (of_decide_eq_false h3),if_neg (of_decide_eq_false h4),if_neg (of_decide_eq_false h5)]
  exact ⟨lineS (.nilr 4) (.nilr 4) (.nilr 4),.refl _,trivial⟩
theorem spec_l13Dot (l:List GToken) (s:TS) (w:ByteArray) (hl:l.length≤1099511627775) (ht:∀ t∈l,okTok t) (hs:okT l s):Con 345 [.pb (tRow l s),.str w] (.agg (GLine.ro (dotL l s w).1)) [some (.pb (tRow l (dotL l s w).2)),none]:=by
 have hl2:l.length≤1099511627776:=by omega
 have cL:=spec_l13List l s hl hs
 rw[dotL]
 refine con Tryz.func345 ?_
 refine ⟨fun h=>?_,fun h=>⟨fun h2=>?_,fun h2=>⟨fun h3=>?_,fun h3=>⟨fun h4=>?_,fun h4=>⟨fun h5=>?_,fun h5=>?_⟩⟩⟩⟩⟩
 ·rw[if_pos (of_decide_eq_true h)]
  refine ⟨[.mut],.ro 4 (GExpr.ros (listV l s).1),[some (.pb (tRow l (listV l s).2))],cL,trivial,?_⟩
  exact ⟨lineS (.nilr 4) (.nilr 4) (.refl _),.refl _,trivial⟩
 ·rw[if_neg (of_decide_eq_false h),if_pos (of_decide_eq_true h2)]
  refine ⟨[.mut],.ro 4 (GExpr.ros (listV l s).1),[some (.pb (tRow l (listV l s).2))],cL,trivial,?_⟩
  exact ⟨lineS (.nilr 4) (.nilr 4) (.refl _),.refl _,trivial⟩
 ·rw[if_neg (of_decide_eq_false h),if_neg (of_decide_eq_false h2),if_pos (of_decide_eq_true h3)]
  refine ⟨[.mut],.ro 4 (GExpr.ros (listV l s).1),[some (.pb (tRow l (listV l s).2))],cL,trivial,?_⟩
  exact ⟨lineS (.nilr 4) (.nilr 4) (.refl _),.refl _,trivial⟩
 ·rw[if_neg (of_decide_eq_false h),if_neg (of_decide_eq_false h2),if_neg (of_decide_eq_false h3),if_pos (of_decide_eq_true h4)]
  exact ⟨lineS (.nilr 4) (.nilr 4) (.nilr 4),.refl _,trivial⟩
 ·rw[if_neg (of_decide_eq_false h),if_neg (of_decide_eq_false h2),if_neg (of_decide_eq_false h3),if_neg (of_decide_eq_false h4),if_pos (of_decide_eq_true h5)]
  have k1:=nextT_ok hs
  have k2:=isT_ok ⟨#[44]⟩ k1
  have c3:=spec_l10Must l _ ⟨#[111,118,101,114]⟩ hl2 k2
  refine ⟨[.mut],.agg (GToken.ro (nextT l s).1),[some (.pb (tRow l (nextT l s).2))],spec_l10Next l s hl2 hs,trivial,?_⟩
  refine ⟨[.mut,.ro],.bool (seeT l (nextT l s).2 ⟨#[44]⟩),[some (.pb (tRow l (isT l (nextT l s).2 ⟨#[44]⟩))),none],spec_l10Is l _ _ hl2 k1,trivial,fun h6=>?_,fun h6=>?_⟩
  ·rw[if_pos h6]
   refine ⟨[.mut,.ro],.tup [],[some (.pb (tRow l (mustT l (isT l (nextT l s).2 ⟨#[44]⟩) ⟨#[111,118,101,114]⟩))),none],c3,trivial,?_⟩
   exact ⟨lineS (.nilr 4) (.nilr 4) (.nilr 4),.refl _,trivial⟩
  ·rw[if_neg (by rw[h6];decide)]
   exact ⟨lineS (.nilr 4) (.nilr 4) (.nilr 4),.refl _,trivial⟩
 ·rw[if_neg (of_decide_eq_false h),if_neg (of_decide_eq_false h2),if_neg (of_decide_eq_false h3),if_neg (of_decide_eq_false h4),if_neg (of_decide_eq_false h5)]
  exact ⟨lineS (.nilr 4) (.nilr 4) (.nilr 4),.nb rfl,trivial⟩
theorem isT_no {l:List GToken} {s:TS} {x:ByteArray} (h:seeT l s x=false):isT l s x=s:=by rw[isT,if_neg (by rw[h];decide)]
theorem spec_l13Line (l:List GToken) (s:TS) (hl:l.length≤1099511627775) (ht:∀ t∈l,okTok t) (hs:okT l s):Con 329 [.pb (tRow l s)] (.agg (GLine.ro (lineL l s).1)) [some (.pb (tRow l (lineL l s).2))]:=by
 have hl2:l.length≤1099511627776:=by omega
 have c1:=spec_l10Next l s hl2 hs
 have k1:=nextT_ok hs
 have tt:=nextT_tok ht s
 rw[lineL]
 generalize nextT l s=B at*
 obtain ⟨t,p⟩:=B
 dsimp only at c1 k1 tt⊢
 have hp:=placeOf_in kW t.s
 have e31:(kW.length:Int)=31:=by decide
 rw[lineN]
 refine con Tryz.func329 ?_
 refine ⟨[.mut],.agg (GToken.ro t),[some (.pb (tRow l p))],c1,trivial,?_⟩
 refine ⟨fun h=>?_,fun h=>⟨fun h2=>?_,fun h2=>⟨fun h3=>?_,fun h3=>?_⟩⟩⟩
 ·rw[if_pos (of_decide_eq_true h)]
  refine ⟨[],.ow 1 (GString.ows kW),[],spec_l9Kept,trivial,?_⟩
  refine ⟨[.ro,.ro],.int .i64 (placeOf kW t.s),[none,none],by rw[GString.roo];exact spec_l9At _ t.s (by decide),⟨trivial,trivial⟩,by kernel_rfl,fun h4=>?_,fun h4=>?_⟩
  ·have h4:=of_decide_eq_true h4
   rw[if_pos h4]
   have e1:IntKind.wrap .i64 (placeOf kW t.s+1)=placeOf kW t.s+1:=w64 (by omega) (by omega)
   refine ⟨[.mut,.ro],.agg (GLine.ro (insV l p (placeOf kW t.s+1)).1),[some (.pb (tRow l (insV l p (placeOf kW t.s+1)).2)),none],by rw[e1];exact spec_l13Ins l p _ hl ht k1,trivial,?_⟩
   exact ⟨.refl _,.refl _,trivial⟩
  ·rw[if_neg (of_decide_eq_false h4)]
   exact ⟨lineS (.nilr 4) (.nilr 4) (.nilr 4),.nb rfl,trivial⟩
 ·rw[if_neg (of_decide_eq_false h),if_pos (of_decide_eq_true h2)]
  refine ⟨[.mut,.ro],.agg (GLine.ro (dotL l p t.s).1),[some (.pb (tRow l (dotL l p t.s).2)),none],spec_l13Dot l p _ hl ht k1,trivial,?_⟩
  exact ⟨.refl _,.refl _,trivial⟩
 ·rw[if_neg (of_decide_eq_false h),if_neg (of_decide_eq_false h2),if_pos (of_decide_eq_true h3)]
  refine ⟨[.mut,.ro],.bool (seeT l p ⟨#[58]⟩),[some (.pb (tRow l (isT l p ⟨#[58]⟩))),none],spec_l10Is l _ _ hl2 k1,trivial,fun h6=>?_,fun h6=>?_⟩
  ·rw[if_pos h6]
   exact ⟨lineS (.nilr 4) (.nilr 4) (.nilr 4),.refl _,trivial⟩
  ·rw[if_neg (by rw[h6];decide),isT_no h6]
   refine ⟨[.mut,.ro],.bool (seeT l p ⟨#[61]⟩),[some (.pb (tRow l (isT l p ⟨#[61]⟩))),none],spec_l10Is l _ _ hl2 k1,trivial,fun h7=>?_,fun h7=>?_⟩
   ·rw[if_pos h7]
    refine ⟨[.mut,.ro],.agg (GExpr.ro (readV l 6 (isT l p ⟨#[61]⟩)).1),[some (.pb (tRow l (readV l 6 (isT l p ⟨#[61]⟩)).2)),none],spec_l10Read l hl2 6 (by decide) _ (isT_ok _ k1),trivial,?_⟩
    exact ⟨lineS (.nilr 4) (.nilr 4) (oneS _),.refl _,trivial⟩
   ·rw[if_neg (by rw[h7];decide),isT_no h7]
    exact ⟨lineS (.nilr 4) (.nilr 4) (.nilr 4),.nb rfl,trivial⟩
 ·rw[if_neg (of_decide_eq_false h),if_neg (of_decide_eq_false h2),if_neg (of_decide_eq_false h3)]
  exact ⟨lineS (.nilr 4) (.nilr 4) (.nilr 4),.nb rfl,trivial⟩
def gLn (x:Option GLine):AV:=match x with | some y=> .tup [.agg (GLine.ro y),.bool true] | none=> .tup [.agg (GLine.ro zLine),.bool false]
theorem spec_l13Of (l:List GToken) (hl:l.length≤1099511627775) (ht:∀ t∈l,okTok t):Con 308 [.ro 3 (GToken.ros l)] (gLn (ofL l)) [none]:=by
 have hlen:=rost_len l
 refine con Tryz.func308 ?_
 refine ⟨fun h=>?_,fun h=>?_⟩
 ·have h:l.length=0:=by have:=of_decide_eq_true h;rw[hlen] at this;omega
  rw[ofL,if_pos h]
  exact ⟨.tup (.cons (lineS (.nilr 4) (.nilr 4) (.nilr 4)) (.refl _)),trivial⟩
 ·have h:¬ l.length=0:=by have:=of_decide_eq_false h;rw[hlen] at this;omega
  have c1:=spec_l13Line l (0,false) hl ht (Nat.zero_le _)
  have g1:=lineL_good ht hl (s:=(0,false)) (Nat.zero_le _)
  have c2:=spec_LineOk (lineL l (0,false)).1 (lineG_fit g1.1) (lineG_ok g1.1)
  rw[ofL,if_neg h]
  generalize lineL l (0,false)=L at*
  refine ⟨[.mut],.agg (GLine.ro L.1),[some (.pb (tRow l L.2))],c1,trivial,?_⟩
  refine ⟨fun h1=>⟨fun h2=>⟨[.ro],.bool (lineE L.1),[none],c2,trivial,?_⟩,fun h2=>?_⟩,fun h1=>?_⟩
  ·have h1:L.2.2=false:=h1
   have h2:L.2.1=l.length:=by have:=of_decide_eq_false h2;rw[hlen] at this;omega
   refine ⟨fun h3=>?_,fun h3=>?_⟩
   ·have h3:lineE L.1=false:=by simpa using h3
    rw[if_pos (.inr (.inr h3))]
    exact ⟨.tup (.cons (lineS (.nilr 4) (.nilr 4) (.nilr 4)) (.refl _)),trivial⟩
   ·have h3:lineE L.1=true:=by simpa using h3
    rw[if_neg (fun g=>g.elim (fun g=>by rw[h1] at g;cases g) fun g=>g.elim (fun g=>g h2) fun g=>by rw[h3] at g;cases g)]
    exact ⟨.refl _,trivial⟩
  ·have h2:¬ L.2.1=l.length:=by have:=of_decide_eq_true h2;rw[hlen] at this;omega
   rw[if_pos (.inr (.inl h2))]
   exact ⟨.tup (.cons (lineS (.nilr 4) (.nilr 4) (.nilr 4)) (.refl _)),trivial⟩
  ·rw[if_pos (.inl h1)]
   exact ⟨.tup (.cons (lineS (.nilr 4) (.nilr 4) (.nilr 4)) (.refl _)),trivial⟩
theorem poctV_in {s:ByteArray} {n:Int} (h:poctV s=some n):0≤n∧n≤65535:=by
 rw[poctV] at h
 split at h
 ·split at h
  ·rename_i h1 h2
   have hd:∀ j,j < s.size→octDig s j=true:=fun j hj=>List.all_eq_true.1 h2 j (List.mem_range.2 hj)
   have:=poctN_in s s.size h1 hd
   split at h
   ·cases h
   ·split at h
    ·injection h with h;omega
    ·cases h
  ·cases h
 ·cases h
theorem oneV_tok {s:ByteArray} {p:Nat} (h:p < s.size) (hs:s.size≤9223372036854775807):okTok (oneV s p).1:=by
 refine ⟨?_,oneV_size h hs⟩
 have hw:∀ x,(wordV x).n=0:=fun x=>by rw[wordV];split<;>rfl
 rw[oneV]
 split
 ·rw[hw];decide
 ·split
  ·dsimp only
   rcases ho:poctV (s.extract p (runV s false p)) with _ | n
   ·decide
   ·have:=poctV_in ho
    show -9223372036854775808≤n∧n≤9223372036854775807
    omega
  ·split
   ·show -9223372036854775808≤(0:Int)∧(0:Int)≤9223372036854775807;decide
   ·show -9223372036854775808≤(0:Int)∧(0:Int)≤9223372036854775807;decide
theorem lexG_tok {s:ByteArray} (hs:s.size≤9223372036854775807):∀ f p out l,lexG s f p out=some l→(∀ t∈out,okTok t)→out.length≤800→(∀ t∈l,okTok t)∧l.length≤800
 | 0,p,out,l,h,ho,hn=>by rw[lexG] at h;injection h with h;rw[←h];exact ⟨ho,hn⟩
 | f+1,p,out,l,h,ho,hn=>by
  rw[lexG] at h
  split at h
  ·rename_i g
   split at h
   ·exact lexG_tok hs f _ _ _ h ho hn
   ·split at h
    ·cases h
    ·rename_i g2 g3
     refine lexG_tok hs f _ _ _ h (fun t htt=>?_) ?_
     ·rcases List.mem_append.1 htt with q | q
      ·exact ho t q
      ·rw[List.mem_singleton.1 q];exact oneV_tok g.1 hs
     ·rw[List.length_append,List.length_singleton]
      have:¬ out.length=800:=fun e=>g3 (.inr e)
      omega
  ·injection h with h;rw[←h];exact ⟨ho,hn⟩
theorem lexV_tok {s:ByteArray} (hs:s.size≤9223372036854775807) {l:List GToken} (h:lexV s=some l):(∀ t∈l,okTok t)∧l.length≤800:=lexG_tok hs _ _ _ _ h (fun t ht=>absurd ht (List.not_mem_nil)) (Nat.zero_le _)
def parL (s:ByteArray):Option GLine:=match lexV s with | some l=>ofL l | none=>none
theorem parL_good {s:ByteArray} (hs:s.size≤9223372036854775807) {x:GLine} (h:parL s=some x):lineG x:=by
 rw[parL] at h
 rcases hl:lexV s with _ | l<;>rw[hl] at h
 ·cases h
 ·have:=lexV_tok hs hl
  exact ofL_good this.1 (by omega) h
theorem spec_ParseLine (s:ByteArray) (hs:s.size≤1099511627776):Con 284 [.str s] (gLn (parL s)) [none]:=by
 have c1:=spec_Lex s hs
 refine con Tryz.func284 ?_
 rcases hl:lexV s with _ | l<;>rw[hl] at c1
 ·rw[show parL s=none by rw[parL,hl]]
  refine ⟨[.ro],.tup [.ow 3 [],.bool false],[none],c1,trivial,?_⟩
  refine ⟨fun h=>?_,fun h=>by cases h⟩
  exact ⟨.tup (.cons (lineS (.nilr 4) (.nilr 4) (.nilr 4)) (.refl _)),trivial⟩
 ·have ht:=lexV_tok (by omega) hl
  have c2:=spec_l13Of l (by omega) ht.1
  refine ⟨[.ro],.tup [.ow 3 (GToken.ows l),.bool true],[none],c1,trivial,?_⟩
  refine ⟨fun h=>(by cases h),fun h=>?_⟩
  rcases ho:ofL l with _ | x<;>rw[ho] at c2
  ·rw[show parL s=none by rw[parL,hl];exact ho]
   refine ⟨[.frz],.tup [.agg (GLine.ro zLine),.bool false],[none],by rw[GToken.roo];exact c2,trivial,?_⟩
   exact ⟨.refl _,trivial⟩
  ·rw[show parL s=some x by rw[parL,hl];exact ho]
   refine ⟨[.frz],.tup [.agg (GLine.ro x),.bool true],[none],by rw[GToken.roo];exact c2,trivial,?_⟩
   exact ⟨.refl _,trivial⟩
end Go.Proofs.VI
