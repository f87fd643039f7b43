/- Contracts of functions, and what they rest on: l16pl l16put l16line. -/
import Derived.Test.YtjlonhiojgljcaaGreatS8
import Derived.Test.YtjlonhiojgljcaaGreatV1
set_option linter.unusedVariables false
set_option linter.unusedSimpArgs false
set_option maxRecDepth 10000
set_option maxHeartbeats 4000000
namespace Go.Proofs.VI
open Go
structure TA where
 syms:List GSym
 globs:List GString
structure TAok (t:TA):Prop where
 nsym:t.syms.length≤100000000
 nglob:t.globs.length≤100000000
 fo:∀ x∈t.syms,FO x.e
 gl:∀ g∈t.globs,g.size≤9223372036854775807
def addN (nv:List GString×List GExpr) (g:GString):List GString×List GExpr:=if placeOf nv.1 g < 0 then (nv.1++[g],nv.2++[.mk 12 0 g []]) else nv
def addG (l:List GString) (nv:List GString×List GExpr):List GString×List GExpr:=l.foldl addN nv
def nvT (t:TA):List GString×List GExpr:=addG t.globs (t.syms.map GSym.name,t.syms.map GSym.e)
theorem glob_fo {g:GString} (h:g.size≤9223372036854775807):FO (.mk 12 0 g []):=by
 refine ⟨?_,?_⟩
 ·simp[GExpr.fit,GExpr.fitL]
 ·simp[GExpr.ok,GExpr.okL];exact h
theorem addN_ok {nv:List GString×List GExpr} {g:GString} (hg:g.size≤9223372036854775807) (hl:nv.1.length=nv.2.length) (hf:∀ v∈nv.2,FO v):(addN nv g).1.length=(addN nv g).2.length∧(∀ v∈(addN nv g).2,FO v)∧(addN nv g).1.length≤nv.1.length+1:=by
 rw[addN];split
 ·refine ⟨by simp[hl],fun v hv=>?_,by simp⟩
  rcases List.mem_append.1 hv with q | q
  ·exact hf v q
  ·rw[List.mem_singleton.1 q];exact glob_fo hg
 ·exact ⟨hl,hf,Nat.le_succ _⟩
theorem addG_ok:∀ {l:List GString} {nv:List GString×List GExpr},(∀ g∈l,g.size≤9223372036854775807)→nv.1.length=nv.2.length→(∀ v∈nv.2,FO v)→(addG l nv).1.length=(addG l nv).2.length∧(∀ v∈(addG l nv).2,FO v)∧(addG l nv).1.length≤nv.1.length+l.length
 | [],nv,_,hl,hf=>⟨hl,hf,Nat.le_refl _⟩
 | g::l,nv,hg,hl,hf=>by
  obtain ⟨h1,h2,h3⟩:=addN_ok (hg g List.mem_cons_self) hl hf
  obtain ⟨g1,g2,g3⟩:=@addG_ok l (addN nv g) (fun x hx=>hg x (List.mem_cons_of_mem _ hx)) h1 h2
  exact ⟨g1,g2,by rw[List.length_cons];show (addG l (addN nv g)).1.length≤_;omega⟩
theorem addG_take {l:List GString} {nv:List GString×List GExpr} {i:Nat} (hi:i < l.length):addG (l.take (i+1)) nv=addN (addG (l.take i) nv) l[i]:=by
 rw[addG,addG,List.take_succ,List.getElem?_eq_getElem hi,List.foldl_append];rfl
theorem nvT_ok {t:TA} (h:TAok t):(nvT t).1.length=(nvT t).2.length∧(∀ v∈(nvT t).2,FO v)∧(nvT t).1.length≤200000000:=by
 have h0:∀ v∈t.syms.map GSym.e,FO v:=fun v hv=>by obtain ⟨y,hy,rfl⟩:=List.mem_map.1 hv;exact h.fo y hy
 have:=addG_ok (l:=t.globs) (nv:=(t.syms.map GSym.name,t.syms.map GSym.e)) h.gl (by simp) h0
 refine ⟨this.1,this.2.1,?_⟩
 have h1:=this.2.2
 have:=h.nsym
 have:=h.nglob
 rw[List.length_map] at h1
 show (addG _ _).1.length≤_
 omega
def put0 (t:TA) (sect:Nat) (a:Int) (e:GExpr):GExpr:=putEV (hereV sect a) (nvT t).1 (nvT t).2 e
def put16 (t:TA) (sect:Nat) (a:Int) (e:GExpr):Option GExpr:=if (okE (put0 t sect a e) 1 false&&cleanE (put0 t sect a e))=true then some (foldX (put0 t sect a e)) else none
theorem put16_ok {t:TA} {sect:Nat} {a:Int} {e x:GExpr} (h:put16 t sect a e=some x):OkX 6 x:=by
 rw[put16] at h
 split at h
 ·rename_i g
  rw[Bool.and_eq_true] at g
  injection h with h
  subst h
  exact (okE_six _).1 (by rw[foldX_okE];exact g.1)
 ·cases h
theorem put0_fo {t:TA} (ht:TAok t) {sect:Nat} {a:Int} {e:GExpr} (h:sect≤9) (h0: -1000000≤a) (h1:a≤1000000) (he:FO e):FO (put0 t sect a e):=
 putEV_fo (okx_fo (hereV_fo h h0 h1)) (nvT_ok ht).2.1 he
def exE (sect:Nat) (p:Int) (a:GArg) (e:GExpr):GExpr:=if 10≤a.form then foldX (twoE 6 e (hereV sect p)) else e
def exW (t:TA) (sect:Nat) (p:Int) (s:List GExpr×Int) (a:GArg):List GExpr×Int:=
 if a.form < 6∨s.2≠0 then s else match put16 t sect p a.e with
 | none=>(s.1,3)
 | some e=>if okE (exE sect (p+2*s.1.length+2) a e) 1 false=true then (s.1++[exE sect (p+2*s.1.length+2) a e],s.2) else (s.1,3)
def sgnW (x:Int):Int:=if 32768≤wr16 x then wr16 x - 65536 else wr16 x
def farN (k:Int):Option Int:=if k.tmod 2≠0∨inI (k.tdiv 2) (-128) 127=false then none else some (k.tdiv 2)
def farW (t:TA) (sect:Nat) (p:Int) (op:Int) (e:GExpr):Int×Int:=match put16 t sect p e with
 | none=>(0,3)
 | some x=>if op=23 then (match knownE x with | some n=>if 255 < n then (0,4) else (n,0) | none=>(0,4))
  else (match knownE (twoE 6 x (hereV sect (p+2))) with | some n=>(match farN (sgnW n) with | some k=>(k,0) | none=>(0,4)) | none=>(0,4))
def opd16 (a:GArg):GOpd:=if a.form=8 then ⟨2,7,0⟩ else if a.form=9 then ⟨3,7,0⟩ else if a.form=10 then ⟨6,7,0⟩ else if a.form=11 then ⟨7,7,0⟩ else ⟨a.form,a.reg,0⟩
def ins16 (x:GLine) (n:Int):GIns:=⟨x.op,if x.op≤6 then opd16 x.src else ⟨0,0,0⟩,if x.op≤15 then opd16 x.dst else ⟨0,0,0⟩,n⟩
def insN (t:TA) (sect:Nat) (p:Int) (x:GLine):Int×Int:=match x.l with | []=>(x.n,0) | e::_=>farW t sect p x.op e
def insW (t:TA) (sect:Nat) (p:Int) (x:GLine):List GExpr×Int:=
 if (insN t sect p x).2≠0 then ([],(insN t sect p x).2) else exW t sect p (exW t sect p ([numE (codeS (ins16 x (insN t sect p x).1))],0) x.src) x.dst
def putA (t:TA) (sect:Nat) (p:Int):List GExpr→Option (List GExpr)
 | []=>some []
 | e::l=>match put16 t sect p e with | none=>none | some x=>(putA t sect p l).map (x::·)
def linW (t:TA) (sect:Nat) (p:Int) (x:GLine):List GExpr×Int:=
 if x.k=3 then insW t sect p x
 else if x.k=4 then (match putA t sect p x.l with | some l=>(l,0) | none=>([],3))
 else if x.k=5 then (List.replicate (min (wordsOf x).toNat 256) (numE 0),0)
 else ([],0)
def lwV (t:TA) (sect p:Int) (x:GLine):List GExpr×Int:=
 if (lineE x&&(inI sect 0 9&&inI p 0 65535))=false then ([],1) else if (linW t sect.toNat p x).2≠0 then ([],(linW t sect.toNat p x).2) else ((linW t sect.toNat p x).1,0)
theorem exW_ok {t:TA} {sect:Nat} {p:Int} {s:List GExpr×Int} {a:GArg} (hs:∀ w∈s.1,OkX 6 w):(∀ w∈(exW t sect p s a).1,OkX 6 w)∧((exW t sect p s a).2=0→((exW t sect p s a).1.length:Int)=s.1.length+argW a∧s.2=0)∧(exW t sect p s a).1.length≤s.1.length+1:=by
 rw[exW]
 split
 ·rename_i h
  refine ⟨hs,fun h0=>⟨?_,h0⟩,by omega⟩
  rw[argW,if_neg (by omega)];omega
 ·rename_i h
  split
  ·exact ⟨hs,fun h0=>(by cases h0),by simp⟩
  ·rename_i e he
   split
   ·rename_i hok
    refine ⟨fun w hw=>?_,fun _=>⟨?_,by omega⟩,by simp⟩
    ·rcases List.mem_append.1 hw with q | q
     ·exact hs w q
     ·rw[List.mem_singleton.1 q];exact (okE_six _).1 hok
    ·rw[argW,if_pos (by omega),List.length_append,List.length_singleton];omega
   ·exact ⟨hs,fun h0=>(by cases h0),by simp⟩
theorem putA_ok {t:TA} {sect:Nat} {p:Int}:∀ {l m:List GExpr},putA t sect p l=some m→m.length=l.length∧∀ w∈m,OkX 6 w
 | [],m,h=>by injection h with h;subst h;exact ⟨rfl,fun w hw=>absurd hw List.not_mem_nil⟩
 | e::l,m,h=>by
  rw[putA] at h
  split at h
  ·cases h
  ·rename_i x hx
   rcases hl:putA t sect p l with _ | m2
   ·rw[hl] at h;cases h
   ·rw[hl] at h
    injection h with h
    subst h
    obtain ⟨h1,h2⟩:=putA_ok hl
    refine ⟨by simp[h1],fun w hw=>?_⟩
    rcases List.mem_cons.1 hw with q | q
    ·rw[q];exact put16_ok hx
    ·exact h2 w q
theorem insW_ok {t:TA} {sect:Nat} {p:Int} {x:GLine}:(∀ w∈(insW t sect p x).1,OkX 6 w)∧((insW t sect p x).2=0→((insW t sect p x).1.length:Int)=1+argW x.src+argW x.dst)∧(insW t sect p x).1.length≤3:=by
 rw[insW]
 split
 ·rename_i h
  exact ⟨fun w hw=>absurd hw List.not_mem_nil,fun h0=>absurd h0 h,by simp⟩
 ·have h1:=exW_ok (t:=t) (sect:=sect) (p:=p) (s:=([numE (codeS (ins16 x (insN t sect p x).1))],0)) (a:=x.src) (fun w hw=>by rw[List.mem_singleton.1 hw];exact num_ok _)
  generalize exW t sect p ([numE (codeS (ins16 x (insN t sect p x).1))],0) x.src=S at h1
  obtain ⟨a1,a2,a3⟩:=h1
  obtain ⟨b1,b2,b3⟩:=exW_ok (t:=t) (sect:=sect) (p:=p) (s:=S) (a:=x.dst) a1
  refine ⟨b1,fun h0=>?_,?_⟩
  ·obtain ⟨c1,c2⟩:=b2 h0
   obtain ⟨d1,_⟩:=a2 c2
   rw[List.length_singleton] at d1
   omega
  ·rw[List.length_singleton] at a3;omega
theorem linW_ok {t:TA} {sect:Nat} {p:Int} {x:GLine} (hl:x.l.length≤6):(∀ w∈(linW t sect p x).1,OkX 6 w)∧(linW t sect p x).1.length≤256∧((linW t sect p x).2=0→(x.k=3∨x.k=4∨x.k=5→(x.k=5→wordsOf x≤256)→((linW t sect p x).1.length:Int)=wordsOf x)∧(¬ (x.k=3∨x.k=4∨x.k=5)→(linW t sect p x).1=[])):=by
 rw[linW]
 split
 ·rename_i h3
  obtain ⟨h1,h2,h4⟩:=@insW_ok t sect p x
  refine ⟨h1,by omega,fun h0=>⟨fun _ _=>?_,fun g=>absurd (.inl h3) g⟩⟩
  rw[h2 h0,wordsOf,if_pos h3]
 ·rename_i h3
  split
  ·rename_i h4
   split
   ·rename_i l hl2
    obtain ⟨g1,g2⟩:=putA_ok hl2
    refine ⟨g2,by dsimp only;omega,fun _=>⟨fun _ _=>?_,fun g=>absurd (.inr (.inl h4)) g⟩⟩
    rw[wordsOf,if_neg h3,if_pos h4];dsimp only;omega
   ·exact ⟨fun w hw=>absurd hw List.not_mem_nil,by simp,fun h0=>(by cases h0)⟩
  ·rename_i h4
   split
   ·rename_i h5
    refine ⟨fun w hw=>?_,by simp;omega,fun _=>⟨fun _ h6=>?_,fun g=>absurd (.inr (.inr h5)) g⟩⟩
    ·rw[List.eq_of_mem_replicate hw];exact num_ok 0
    ·have:=h6 h5
     have:=(words_in x (by omega)).1
     dsimp only
     rw[List.length_replicate];omega
   ·rename_i h5
    exact ⟨fun w hw=>absurd hw List.not_mem_nil,by simp,fun _=>⟨fun h=>by omega,fun _=>rfl⟩⟩
theorem lwV_ok {t:TA} {sect p:Int} {x:GLine}:(∀ w∈(lwV t sect p x).1,OkX 6 w)∧(lwV t sect p x).1.length≤256∧((lwV t sect p x).2≠0→(lwV t sect p x).1=[])∧((lwV t sect p x).2=0→(x.k=3∨x.k=4∨x.k=5→(x.k=5→wordsOf x≤256)→((lwV t sect p x).1.length:Int)=wordsOf x)∧(¬ (x.k=3∨x.k=4∨x.k=5)→(lwV t sect p x).1=[])):=by
 rw[lwV]
 split
 ·exact ⟨fun w hw=>absurd hw List.not_mem_nil,by simp,fun _=>rfl,fun h0=>(by cases h0)⟩
 ·rename_i h
  rw[Bool.not_eq_false,Bool.and_eq_true] at h
  obtain ⟨h1,h2,h3⟩:=linW_ok (t:=t) (sect:=sect.toNat) (p:=p) (x:=x) (lineE_len h.1)
  split
  ·rename_i h4
   exact ⟨fun w hw=>absurd hw List.not_mem_nil,by simp,fun _=>rfl,fun h0=>absurd h0 h4⟩
  ·rename_i h4
   exact ⟨h1,h2,fun h0=>absurd rfl h0,fun _=>h3 (Decidable.not_not.1 h4)⟩
theorem fold_fo {e:GExpr} (h:FO e):FO (foldX e):=by
 rw[foldX];split
 ·rename_i g
  exact fo_okx (foldE_ok ((okE_six _).1 g)).1
 ·exact h
theorem argE_form {a:GArg} (h:argE a=true):(0≤a.form∧a.form≤11)∧(0≤a.reg∧a.reg≤7):=by
 rw[argE] at h
 split at h
 ·rename_i g
  rw[Bool.and_eq_true] at h
  have:=inI_true.1 g
  have:=inI_true.1 h.1
  omega
 ·split at h
  ·rw[Bool.and_eq_true] at h
   have:=inI_true.1 h.1
   omega
  ·split at h
   ·rename_i g
    rw[Bool.and_eq_true,decide_eq_true_eq] at h
    have:=inI_true.1 g
    omega
   ·cases h
theorem opdE_mk {m r:Int} (h0:0≤m∧m≤7) (h1:0≤r∧r≤7):opdE ⟨m,r,0⟩=true:=by
 rw[opdE,inI_true.2 h0,inI_true.2 h1];rfl
theorem opd16_ok {a:GArg} (h:argE a=true):opdE (opd16 a)=true:=by
 have:=argE_form h
 rw[opd16]
 split
 ·rfl
 ·split
  ·rfl
  ·split
   ·rfl
   ·split
    ·rfl
    ·exact opdE_mk (by omega) (by omega)
theorem farW_in {t:TA} {sect:Nat} {p op:Int} {e:GExpr} (h:(farW t sect p op e).2=0):(op=23→0≤(farW t sect p op e).1∧(farW t sect p op e).1≤255)∧(op≠23→ -128≤(farW t sect p op e).1∧(farW t sect p op e).1≤127):=by
 rw[farW] at h⊢
 split at h
 ·cases h
 ·rename_i x hx
  split at h
  ·rename_i g
   refine ⟨fun _=>?_,fun q=>absurd g q⟩
   rw[if_pos g]
   split at h
   ·rename_i n hn
    split at h
    ·cases h
    ·rename_i g2
     have:=known_in hn
     rw[if_neg g2]
     dsimp only
     omega
   ·cases h
  ·rename_i g
   refine ⟨fun q=>absurd q g,fun _=>?_⟩
   rw[if_neg g]
   split at h
   ·rename_i n hn
    split at h
    ·rename_i k hk
     dsimp only
     rw[farN] at hk
     split at hk
     ·cases hk
     ·rename_i g3
      injection hk with hk
      have g4:inI ((sgnW n).tdiv 2) (-128) 127=true:=by
       cases h9:inI ((sgnW n).tdiv 2) (-128) 127 with
       | true=>rfl
       | false=>exact absurd (.inr h9) g3
      have:=inI_true.1 g4
      omega
    ·cases h
   ·cases h
theorem insE_mk (o:Int) (s d:GOpd) (n:Int):insE ⟨o,s,d,n⟩=(if inI o 1 6=true then opdE s&&(opdE d&&decide (n=0)) else if inI o 7 14=true then zB s&&(opdE d&&decide (n=0)) else if o=15 then zB s&&(opdE d&&inI n 0 7) else if zB s=false then false else if zB d=false then false else if o=16 then inI n 0 7 else if inI o 17 21=true then inI n (-128) 127 else if o=22 then decide (n=0) else if o=23 then inI n 0 255 else false):=rfl
theorem ins16_ok {t:TA} {sect:Nat} {p:Int} {x:GLine} (hk:x.k=3) (h:lineE x=true) (hn:(insN t sect p x).2=0):insE (ins16 x (insN t sect p x).1)=true:=by
 have hi:insLE x=true:=by rw[lineE,if_pos hk,Bool.and_eq_true] at h;exact h.2
 have hN:x.l=[]→(insN t sect p x).1=x.n:=fun e=>by rw[insN,e]
 have hz:zB ⟨0,0,0⟩=true:=rfl
 have hF:x.l≠ []→(x.op=23→inI (insN t sect p x).1 0 255=true)∧(x.op≠23→inI (insN t sect p x).1 (-128) 127=true):=fun e=>by
  match hl:x.l with
  | []=>exact absurd hl e
  | y::_=>
   have e2:insN t sect p x=farW t sect p x.op y:=by rw[insN,hl]
   rw[e2] at hn⊢
   obtain ⟨h1,h2⟩:=farW_in hn
   exact ⟨fun q=>inI_true.2 (h1 q),fun q=>inI_true.2 (h2 q)⟩
 rw[insLE] at hi
 rw[ins16,insE_mk]
 split at hi
 ·rename_i g
  have g2:=inI_true.1 g
  simp only[Bool.and_eq_true,decide_eq_true_eq] at hi
  obtain ⟨h1,h2,h3,h4⟩:=hi
  rw[if_pos g,if_pos (by omega),if_pos (by omega),opd16_ok h1,opd16_ok h2,hN (emptyL_nil h4),h3];rfl
 ·rename_i g
  split at hi
  ·rename_i g1
   have g2:=inI_true.1 g1
   simp only[Bool.and_eq_true,decide_eq_true_eq] at hi
   obtain ⟨h1,h2,h3,h4⟩:=hi
   rw[if_neg g,if_pos g1,if_neg (by omega),if_pos (by omega),opd16_ok h2,hN (emptyL_nil h4),h3];rfl
  ·rename_i g1
   split at hi
   ·rename_i g2
    simp only[Bool.and_eq_true] at hi
    obtain ⟨h1,h2,h3,h4⟩:=hi
    rw[if_neg g,if_neg g1,if_pos g2,if_neg (by omega),if_pos (by omega),opd16_ok h2,hN (emptyL_nil h4),h3];rfl
   ·rename_i g2
    have k6:¬ (x.op≤6)→(if x.op≤6 then opd16 x.src else (⟨0,0,0⟩:GOpd))=⟨0,0,0⟩:=fun q=>if_neg q
    have k15:¬ (x.op≤15)→(if x.op≤15 then opd16 x.dst else (⟨0,0,0⟩:GOpd))=⟨0,0,0⟩:=fun q=>if_neg q
    split at hi
    ·cases hi
    ·split at hi
     ·rename_i g3
      simp only[Bool.and_eq_true] at hi
      rw[if_neg g,if_neg g1,if_neg g2,k6 (by omega),k15 (by omega),hz,if_neg (by decide),if_neg (by decide),if_pos g3,hN (emptyL_nil hi.2)]
      exact hi.1
     ·rename_i g3
      split at hi
      ·rename_i g4
       simp only[Bool.and_eq_true,decide_eq_true_eq] at hi
       rw[if_neg g,if_neg g1,if_neg g2,k6 (by omega),k15 (by omega),hz,if_neg (by decide),if_neg (by decide),if_neg g3,if_neg (by rw[g4];decide),if_pos g4,hN (emptyL_nil hi.2)]
       simp[hi.1]
      ·rename_i g4
       split at hi
       ·rename_i g5
        simp only[Bool.and_eq_true,decide_eq_true_eq] at hi
        have hne:x.l≠ []:=fun e=>by have:=hi.2.1;rw[e] at this;exact absurd this (by decide)
        obtain ⟨f1,f2⟩:=hF hne
        simp only[Bool.or_eq_true,decide_eq_true_eq] at g5
        by_cases g6:x.op=23
        ·rw[if_neg g,if_neg g1,if_neg g2,k6 (by omega),k15 (by omega),hz,if_neg (by decide),if_neg (by decide),if_neg g3,if_neg (by rw[g6];decide),if_neg g4,f1 g6]
         simp[g6]
        ·have g7:inI x.op 17 21=true:=g5.resolve_right g6
         have:=inI_true.1 g7
         rw[if_neg g,if_neg g1,if_neg g2,k6 (by omega),k15 (by omega),hz,if_neg (by decide),if_neg (by decide),if_neg g3,if_pos g7,f2 g6]
       ·cases hi
def taR (t:TA):List AV:=[.ro 5 (symRs t.syms),.ifc,.ro 1 (GString.ros t.globs)]
def gX (x:Option GExpr):AV:=match x with | some e=> .tup [.agg (GExpr.ro e),.bool true] | none=> .tup [.agg (GExpr.ro zExpr),.bool false]
theorem zExpr_ro:Sim (.agg [.int .i64 0,.int .i64 0,.str ⟨#[]⟩,.nils]) (.agg (GExpr.ro zExpr)):=by
 show Sim (.agg [.int .i64 0,.int .i64 0,.str ⟨#[]⟩,.nils]) (.agg [.int .i64 0,.int .i64 0,.str ⟨#[]⟩,.ro 4 []])
 exact .agg (.cons (.refl _) (.cons (.refl _) (.cons (.refl _) (.cons (.nilr 4) (.refl _)))))
theorem row_catN (l:List GExpr) (k n:Int) (s:ByteArray):SimRows (GExpr.ros l++[[.int .i64 k,.int .i64 n,.str s,.nils]]) (GExpr.ros (l++[.mk k n s []])):=by
 rw[GExpr.ros_eq,GExpr.ros_eq,List.map_append]
 exact (SimRows.refl _).append (.cons (.cons (.refl _) (.cons (.refl _) (.cons (.refl _) (.cons (.nilr 4) (.refl _))))) (.refl _))
theorem spec_l16Put (t:TA) (ht:TAok t) (sect:Nat) (a:Int) (e:GExpr) (fe:FO e) (hs:sect≤9) (ha0:0≤a) (ha1:a≤65535):Con 305 [.agg (GExpr.ro e),.agg (taR t),.int .i64 sect,.int .i64 a] (gX (put16 t sect a e)) [none,none,none,none]:=by
 have hns:=ht.nsym
 have hng:=ht.nglob
 have cV:=Contract.le (.cons (.agg (.cons (.refl _) (.cons (.refl _) (.cons (.anyr 1 (GString.ros t.globs)) (.refl _))))) (.refl _)) (spec_l15Vals t.syms (by omega))
 have hlen:(GString.ros t.globs).length=t.globs.length:=by simp
 have hnv0:(t.syms.map GSym.name).length=(t.syms.map GSym.e).length:=by simp
 have h0:∀ v∈t.syms.map GSym.e,FO v:=fun v hv=>by obtain ⟨y,hy,rfl⟩:=List.mem_map.1 hv;exact ht.fo y hy
 refine con Tryz.func305 ?_
 refine ⟨[.ro],.tup [.ow 1 (GString.ows (t.syms.map GSym.name)),.ow 4 (GExpr.ros (t.syms.map GSym.e))],[none],cV,trivial,?_⟩
 refine ⟨{i:Nat // i≤t.globs.length},fun i=>⟨[(2,.int .i64 sect),(3,.int .i64 a),(4,.ptr 0 0 0),(5,.ptr 1 0 0),(8,.ptr 2 0 0),(10,.own 3),(11,.own 4),(12,.int .i64 i.1)],[(0,.box (GExpr.ro e) []),(1,.box (taR t) []),(2,.box GExpr.zero []),(3,.rows 1 (GString.ows (addG (t.globs.take i.1) (t.syms.map GSym.name,t.syms.map GSym.e)).1) []),(4,.rows 4 (GExpr.ros (addG (t.globs.take i.1) (t.syms.map GSym.name,t.syms.map GSym.e)).2) [])]⟩,fun i=>t.globs.length - i.1,⟨0,Nat.zero_le _⟩,?_,?_⟩
 ·exact ⟨rfl,rfl,rfl,rfl,rfl,rfl,rfl,rfl,rfl,.refl _,.refl _,.refl _,rfl,.refl _,rfl,.refl _,trivial⟩
 ·rintro ⟨i,hi⟩
  dsimp only
  have e1:IntKind.wrap .i64 ((i:Int)+1)=((i+1:Nat):Int):=w64 (by omega) (by omega)
  have hok:=addG_ok (l:=t.globs.take i) (nv:=(t.syms.map GSym.name,t.syms.map GSym.e)) (fun g hg=>ht.gl g (List.mem_of_mem_take hg)) hnv0 h0
  refine ⟨fun h=>?_,fun h=>?_⟩
  ·have h:=of_decide_eq_true h
   rw[hlen] at h
   have hi:i < t.globs.length:=by omega
   have e3:addG (t.globs.take (i+1)) (t.syms.map GSym.name,t.syms.map GSym.e)=addN (addG (t.globs.take i) (t.syms.map GSym.name,t.syms.map GSym.e)) t.globs[i]:=addG_take hi
   generalize addG (t.globs.take i) (t.syms.map GSym.name,t.syms.map GSym.e)=nv at*
   obtain ⟨ns,vs⟩:=nv
   obtain ⟨k1,k2,k3⟩:=hok
   dsimp only at k1 k2 k3
   rw[List.length_map,List.length_take] at k3
   have hrow:(GString.ros t.globs)[i]?=some [AV.str t.globs[i]]:=map_get _ _ hi
   have cA:=spec_l9At ns t.globs[i] (by omega)
   have l1:(GString.ows ns).length=ns.length:=by simp
   have l2:(GExpr.ros vs).length=vs.length:=ros_len vs
   refine ⟨Int.natCast_nonneg _,_,hrow,?_⟩
   refine ⟨[.ro,.ro],.int .i64 (placeOf ns t.globs[i]),[none,none],by rw[GString.roo];exact cA,⟨trivial,trivial⟩,fun h2=>?_,fun h2=>?_⟩
   ·have e2:addN (ns,vs) t.globs[i]=(ns++[t.globs[i]],vs++[.mk 12 0 t.globs[i] []]):=if_pos (of_decide_eq_true h2)
    rw[e2] at e3
    refine ⟨Int.natCast_nonneg _,_,hrow,trivial,(by show ((GString.ows ns).length+1)*16≤_;rw[l1];omega),⟨⟨trivial,trivial⟩,trivial⟩,?_⟩
    refine ⟨Int.natCast_nonneg _,_,hrow,trivial,(by show ((GExpr.ros vs).length+1)*56≤_;rw[l2];omega),⟨⟨trivial,trivial,trivial,trivial,trivial⟩,trivial⟩,?_⟩
    exact ⟨⟨i+1,hi⟩,Nat.sub_succ_lt_self _ _ hi,rfl,rfl,rfl,rfl,rfl,rfl,rfl,rfl,congrArg (AV.int .i64) e1,.refl _,.refl _,.refl _,rfl,(by dsimp only;rw[e3];exact .of_eq (str_cat ns _)),rfl,(by dsimp only;rw[e3];exact row_catN vs _ _ _),trivial⟩
   ·have e2:addN (ns,vs) t.globs[i]=(ns,vs):=if_neg (of_decide_eq_false h2)
    rw[e2] at e3
    exact ⟨⟨i+1,hi⟩,Nat.sub_succ_lt_self _ _ hi,rfl,rfl,rfl,rfl,rfl,rfl,rfl,rfl,congrArg (AV.int .i64) e1,.refl _,.refl _,.refl _,rfl,(by dsimp only;rw[e3];exact .refl _),rfl,(by dsimp only;rw[e3];exact .refl _),trivial⟩
  ·have h:=of_decide_eq_false h
   rw[hlen] at h
   rw[List.take_of_length_le (by omega)]
   have eN:addG t.globs (t.syms.map GSym.name,t.syms.map GSym.e)=nvT t:=rfl
   rw[eN]
   obtain ⟨n1,n2,n3⟩:=nvT_ok ht
   have cH:=spec_l15Here sect a (by omega) (by omega) (by omega)
   have xH:=hereV_fo (sect:=sect) (a:=a) (by omega) (by omega) (by omega)
   have f0:=put0_fo ht (sect:=sect) (a:=a) (e:=e) hs (by omega) (by omega) fe
   have cP:=spec_Put e (hereV sect a) (nvT t).1 (nvT t).2 fe (okx_fo xH) n2 (by omega) n1
   have cO:=spec_ExprOk (put0 t sect a e) f0.1 f0.2
   have cC:=spec_l15Clean (put0 t sect a e) f0.1
   have cF:=spec_Fold (put0 t sect a e) f0.1 f0.2
   rw[put16]
   refine ⟨[.ro,.ro],.agg (GExpr.ro (hereV sect a)),[none,none],cH,trivial,?_⟩
   refine ⟨[.ro,.ro,.ro,.ro],.agg (GExpr.ow (put0 t sect a e)),[none,none,none,none],by rw[GString.roo,GExpr.ror];exact cP,⟨⟨trivial,trivial,trivial,GExpr.noRo_ows _ fun x _=>GExpr.noRo_ow x,trivial⟩,trivial⟩,by kernel_rfl,?_⟩
   refine ⟨[.ro],.bool (okE (put0 t sect a e) 1 false),[none],by rw[GExpr.roo];exact cO,⟨trivial,trivial⟩,fun h1=>⟨[.ro],.bool (cleanE (put0 t sect a e)),[none],by rw[GExpr.roo];exact cC,⟨trivial,trivial⟩,fun h2=>?_,fun h2=>?_⟩,fun h1=>?_⟩
   all_goals simp only[Bool.not_eq_true',Bool.not_eq_false'] at h1
   ·simp only[Bool.not_eq_true'] at h2
    rw[if_neg (by rw[h2];simp)]
    exact ⟨.tup (.cons zExpr_ro (.refl _)),trivial⟩
   ·simp only[Bool.not_eq_false'] at h2
    rw[if_pos (by rw[h1,h2];rfl)]
    refine ⟨[.frz],.agg (GExpr.ro (foldX (put0 t sect a e))),[none],by rw[GExpr.roo];exact cF,trivial,?_⟩
    exact ⟨.refl _,trivial⟩
   ·rw[if_neg (by rw[h1];simp)]
    exact ⟨.tup (.cons zExpr_ro (.refl _)),trivial⟩
def lwQ (t:TA) (sect:Nat) (p:Int) (W:List (List AV)) (c:Int):List AV:=[.ro 5 (symRs t.syms),.ifc,.ro 1 (GString.ros t.globs),.int .i64 sect,.int .i64 p,.ro 4 W,.int .i64 c]
def lwR (t:TA) (sect:Nat) (p:Int) (s:List GExpr×Int):List AV:=[.ro 5 (symRs t.syms),.ifc,.ro 1 (GString.ros t.globs),.int .i64 sect,.int .i64 p,.ow 4 (GExpr.ros s.1),.int .i64 s.2]
theorem two_ros (x y:GExpr):toRoRows [GExpr.ro x,GExpr.ro y]=GExpr.ros [x,y]:=by
 rw[show [GExpr.ro x,GExpr.ro y]=GExpr.ros [x,y] from by rw[GExpr.ros_eq];rfl,GExpr.ror]
theorem app_at {α:Type} (l:List α) (x:α):(l++[x])[(l.length:Int).toNat]?=some x:=by
 rw[Int.toNat_natCast,List.getElem?_append_right (Nat.le_refl _),Nat.sub_self];rfl
theorem app_set {α:Type} (l:List α) (x y:α):(l++[x]).set (l.length:Int).toNat y=l++[y]:=by
 rw[Int.toNat_natCast,List.set_append_right _ _ (Nat.le_refl _),Nat.sub_self];rfl
theorem spec_l16Here (a b c:AV) (sect p k:Int) (W:List (List AV)):Con 338 [.rp [a,b,c,.int .i64 sect,.int .i64 p,.ro 4 W,.int .i64 k] 0] (.int .i64 (IntKind.wrap .i64 (p+IntKind.wrap .i64 (2*W.length)))) [none]:=by
 refine con Tryz.func338 ?_
 exact ⟨by kernel_rfl,.refl _,trivial⟩
theorem spec_l16Extra (t:TA) (ht:TAok t) (sect:Nat) (p:Int) (s:List GExpr×Int) (hs:s.1.length≤300) (a:GArg) (fe:FO a.e) (h9:sect≤9) (hp0:0≤p) (hp1:p≤65535):Con 325 [.pb (lwR t sect p s),.agg (GArg.ro a)] (.tup []) [some (.pb (lwR t sect p (exW t sect p s a))),none]:=by
 have cP:=spec_l16Put t ht sect p a.e fe h9 hp0 hp1
 have lw:=ros_len s.1
 have e1:IntKind.wrap .i64 (IntKind.wrap .i64 (p+IntKind.wrap .i64 (2*(GExpr.ros s.1).length))+2)=p+2*s.1.length+2:=by
  rw[lw,w64 (x:=2*(s.1.length:Int)) (by omega) (by omega),w64 (x:=p+2*(s.1.length:Int)) (by omega) (by omega),w64 (by omega) (by omega)]
 rw[exW]
 refine conI [] (fun i=>bif Nat.beq i 9 then some (0,323) else none) (fun _=>false) Tryz.func325 (fun _ h=>by cases h) ?_
 refine ⟨fun h1=>⟨fun h2=>?_,fun h2=>?_⟩,fun h1=>?_⟩
 ·rw[if_pos (.inr (of_decide_eq_true h2))]
  exact ⟨.refl _,.refl _,trivial⟩
 ·have h1:=of_decide_eq_false h1
  have h2:=of_decide_eq_false h2
  rw[if_neg (fun q=>q.elim h1 h2)]
  rcases hput:put16 t sect p a.e with _ | x<;>rw[hput] at cP
  ·refine ⟨[.ro,.ro,.ro,.ro],.tup [.agg (GExpr.ro zExpr),.bool false],[none,none,none,none],cP,trivial,by kernel_rfl,?_⟩
   refine ⟨fun g=>?_,fun g=>(by cases g)⟩
   exact ⟨.refl _,.refl _,trivial⟩
  ·have ox:=put16_ok hput
   have xH:=hereV_fo (sect:=sect) (a:=p+2*s.1.length+2) (by omega) (by omega) (by omega)
   have cH:=spec_l15Here sect (p+2*s.1.length+2) (by omega) (by omega) (by omega)
   have fT:FO (twoE 6 x (hereV sect (p+2*s.1.length+2))):=fo_okx (OkX.two (h:=6) (by decide) (by decide) ox xH)
   have cF:=spec_Fold (twoE 6 x (hereV sect (p+2*s.1.length+2))) fT.1 fT.2
   have cT:Con 182 [.agg [.int .i64 6,.int .i64 0,.str ⟨#[]⟩,.ro 4 (toRoRows [GExpr.ro x,GExpr.ro (hereV sect (p+2*s.1.length+2))])]] (.agg (GExpr.ro (foldX (twoE 6 x (hereV sect (p+2*s.1.length+2)))))) [none]:=by rw[two_ros];exact cF
   have f2:FO (exE sect (p+2*s.1.length+2) a x):=by
    rw[exE];split
    ·exact fold_fo fT
    ·exact okx_fo ox
   have cO:=spec_ExprOk _ f2.1 f2.2
   refine ⟨[.ro,.ro,.ro,.ro],.tup [.agg (GExpr.ro x),.bool true],[none,none,none,none],cP,trivial,by kernel_rfl,?_⟩
   refine ⟨fun g=>(by cases g),fun g=>⟨fun h3=>?_,fun h3=>?_⟩⟩
   ·have h3:=of_decide_eq_true h3
    have eE:exE sect (p+2*s.1.length+2) a x=foldX (twoE 6 x (hereV sect (p+2*s.1.length+2))):=if_pos h3
    rw[eE] at cO
    dsimp only
    refine ⟨[.ro],.int .i64 (IntKind.wrap .i64 (p+IntKind.wrap .i64 (2*(GExpr.ros s.1).length))),[none],by simp only[toRoL,toRo,GExpr.ror];exact spec_l16Here _ _ _ _ _ _ _,⟨trivial,trivial⟩,?_⟩
    refine ⟨[.ro,.ro],.agg (GExpr.ro (hereV sect (p+2*s.1.length+2))),[none,none],by rw[e1];exact cH,trivial,?_⟩
    refine ⟨[.frz],.agg (GExpr.ro (foldX (twoE 6 x (hereV sect (p+2*s.1.length+2))))),[none],cT,trivial,by kernel_rfl,?_⟩
    refine ⟨[.ro],.bool (okE (exE sect (p+2*s.1.length+2) a x) 1 false),[none],by rw[eE];exact cO,trivial,fun h4=>?_,fun h4=>?_⟩<;>simp only[Bool.not_eq_true',Bool.not_eq_false'] at h4
    ·rw[if_neg (by rw[h4];decide)]
     exact ⟨.refl _,.refl _,trivial⟩
    ·rw[if_pos h4]
     refine ⟨trivial,(by show ((GExpr.ros s.1).length+1)*56≤_;rw[lw];omega),⟨⟨trivial,trivial,trivial,trivial,trivial⟩,trivial⟩,Int.natCast_nonneg _,by rw[List.length_append,List.length_singleton];omega,_,app_at _ _,by kernel_rfl,?_⟩
     refine ⟨.refl _,.of_eq (congrArg AV.pb ?_),trivial⟩
     rw[lwR,app_set,eE];exact congrArg (fun z=>[AV.ro 5 (symRs t.syms),AV.ifc,AV.ro 1 (GString.ros t.globs),AV.int .i64 sect,AV.int .i64 p,AV.ow 4 z,AV.int .i64 s.2]) (row_cat _ _)
   ·have h3:=of_decide_eq_false h3
    have eE:exE sect (p+2*s.1.length+2) a x=x:=if_neg h3
    rw[eE] at cO
    dsimp only
    refine ⟨[.ro],.bool (okE (exE sect (p+2*s.1.length+2) a x) 1 false),[none],by rw[eE];exact cO,trivial,fun h4=>?_,fun h4=>?_⟩<;>simp only[Bool.not_eq_true',Bool.not_eq_false'] at h4
    ·rw[if_neg (by rw[h4];decide)]
     exact ⟨.refl _,.refl _,trivial⟩
    ·rw[if_pos h4]
     refine ⟨trivial,(by show ((GExpr.ros s.1).length+1)*56≤_;rw[lw];omega),⟨⟨trivial,trivial,trivial,trivial,trivial⟩,trivial⟩,Int.natCast_nonneg _,by rw[List.length_append,List.length_singleton];omega,_,app_at _ _,by kernel_rfl,?_⟩
     refine ⟨.refl _,.of_eq (congrArg AV.pb ?_),trivial⟩
     rw[lwR,app_set,eE];exact congrArg (fun z=>[AV.ro 5 (symRs t.syms),AV.ifc,AV.ro 1 (GString.ros t.globs),AV.int .i64 sect,AV.int .i64 p,AV.ow 4 z,AV.int .i64 s.2]) (row_cat _ _)
 ·rw[if_pos (.inl (of_decide_eq_true h1))]
  exact ⟨.refl _,.refl _,trivial⟩
theorem spec_l16Opd (a:GArg):Con 322 [.agg (GArg.ro a)] (.agg (GOpd.ro (opd16 a))) [none]:=by
 refine con Tryz.func322 ?_
 repeat' (first | refine And.intro (fun (h:_=true)=>?_) (fun (h:_=false)=>?_) | refine And.intro (fun (h:_=false)=>?_) (fun (h:_=true)=>?_) | refine And.intro (show regOk _ _=true from by kernel_rfl) ?_ | refine And.intro (Sim.of_eq ?_) trivial | fail)
 all_goals simp_all[opd16,GOpd.ro]
theorem sgnW_in (n:Int): -32768≤sgnW n∧sgnW n≤32767:=by
 have:=wr16_in n
 rw[sgnW];split<;>omega
theorem spec_Sgn (x:Int):Con 333 [.int .i64 x] (.int .i64 (sgnW x)) [none]:=by
 have h:=wr16_in x
 refine con Tryz.func333 ?_
 refine ⟨[.ro],.int .i64 (wr16 x),[none],spec_Wrap x,trivial,fun g=>?_,fun g=>?_⟩
 ·rw[sgnW,if_pos (of_decide_eq_true g)]
  exact ⟨.i64 (w64 (by omega) (by omega)),trivial⟩
 ·rw[sgnW,if_neg (of_decide_eq_false g)]
  exact ⟨.refl _,trivial⟩
theorem spec_l16Far (t:TA) (ht:TAok t) (sect:Nat) (p:Int) (s:List GExpr×Int) (x:GLine) (y:GExpr) (l:List GExpr) (hl:x.l=y::l) (fy:FO y) (h9:sect≤9) (hp0:0≤p) (hp1:p≤65535):Con 323 [.rp (lwQ t sect p (GExpr.ros s.1) s.2) 0,.agg (GLine.ro x)] (.tup [.int .i64 (farW t sect p x.op y).1,.int .i64 (farW t sect p x.op y).2]) [none,none]:=by
 have cP:=spec_l16Put t ht sect p y fy h9 hp0 hp1
 have hx0:(GExpr.ros x.l)[0]?=some (GExpr.ro y):=by rw[hl,GExpr.ros_eq];rfl
 rw[farW]
 refine con Tryz.func323 ?_
 refine ⟨by decide,_,hx0,?_⟩
 rcases hput:put16 t sect p y with _ | z<;>rw[hput] at cP
 ·refine ⟨[.ro,.ro,.ro,.ro],.tup [.agg (GExpr.ro zExpr),.bool false],[none,none,none,none],cP,trivial,by kernel_rfl,?_⟩
  refine ⟨fun g=>?_,fun g=>(by cases g)⟩
  exact ⟨.refl _,trivial⟩
 ·have oz:=put16_ok hput
  refine ⟨[.ro,.ro,.ro,.ro],.tup [.agg (GExpr.ro z),.bool true],[none,none,none,none],cP,trivial,by kernel_rfl,?_⟩
  dsimp only
  refine ⟨fun g=>(by cases g),fun g=>⟨fun h3=>?_,fun h3=>?_⟩⟩
  ·rw[if_pos (of_decide_eq_true h3)]
   have cK:=spec_Known z (okx_fo oz).1 (okx_fo oz).2
   rcases hk:knownE z with _ | n<;>rw[hk] at cK
   ·refine ⟨[.ro],.tup [.int .i64 0,.bool false],[none],cK,trivial,?_⟩
    refine ⟨fun q=>(by cases q),fun q=>?_⟩
    exact ⟨.refl _,trivial⟩
   ·refine ⟨[.ro],.tup [.int .i64 n,.bool true],[none],cK,trivial,?_⟩
    dsimp only
    refine ⟨fun q=>⟨fun g2=>?_,fun g2=>?_⟩,fun q=>(by cases q)⟩
    ·rw[if_pos (of_decide_eq_true g2)]
     exact ⟨.refl _,trivial⟩
    ·rw[if_neg (of_decide_eq_false g2)]
     exact ⟨.refl _,trivial⟩
  ·rw[if_neg (of_decide_eq_false h3)]
   have e1:IntKind.wrap .i64 (p+2)=p+2:=w64 (by omega) (by omega)
   have xH:=hereV_fo (sect:=sect) (a:=p+2) (by omega) (by omega) (by omega)
   have cH:=spec_l15Here sect (p+2) (by omega) (by omega) (by omega)
   have fT:FO (twoE 6 z (hereV sect (p+2))):=fo_okx (OkX.two (h:=6) (by decide) (by decide) oz xH)
   have cK:=spec_Known (twoE 6 z (hereV sect (p+2))) fT.1 fT.2
   have cT:Con 321 [.agg [.int .i64 6,.int .i64 0,.str ⟨#[]⟩,.ro 4 (toRoRows [GExpr.ro z,GExpr.ro (hereV sect (p+2))])]] (gI (knownE (twoE 6 z (hereV sect (p+2))))) [none]:=by rw[two_ros];exact cK
   refine ⟨[.ro,.ro],.agg (GExpr.ro (hereV sect (p+2))),[none,none],by rw[e1];exact cH,trivial,?_⟩
   rcases hk:knownE (twoE 6 z (hereV sect (p+2))) with _ | n<;>rw[hk] at cT
   ·refine ⟨[.frz],.tup [.int .i64 0,.bool false],[none],cT,trivial,by kernel_rfl,?_⟩
    refine ⟨[.ro],.int .i64 (sgnW 0),[none],spec_Sgn 0,trivial,?_⟩
    refine ⟨fun q=>(by cases q),fun q=>?_⟩
    exact ⟨.refl _,trivial⟩
   ·have hn:=known_in hk
    have hs:=sgnW_in n
    have e2:IntKind.wrap .i64 ((sgnW n).tdiv 2)=(sgnW n).tdiv 2:=by
     have:=Int.natAbs_tdiv_le_natAbs (sgnW n) 2
     exact w64 (by omega) (by omega)
    refine ⟨[.frz],.tup [.int .i64 n,.bool true],[none],cT,trivial,by kernel_rfl,?_⟩
    refine ⟨[.ro],.int .i64 (sgnW n),[none],spec_Sgn n,trivial,?_⟩
    refine ⟨fun q=>⟨by decide,fun r1=>⟨by decide,?_⟩,fun r1=>?_⟩,fun q=>(by cases q)⟩
    ·refine ⟨[.ro,.ro,.ro],.bool (inI ((sgnW n).tdiv 2) (-128) 127),[none,none,none],by rw[e2];exact spec_l1In _ _ _,trivial,fun r2=>?_,fun r2=>⟨by decide,?_⟩⟩
     ·have hf:farN (sgnW n)=none:=if_pos (.inr (by simpa using r2))
      dsimp only
      rw[hf]
      exact ⟨.refl _,trivial⟩
     ·have hf:farN (sgnW n)=some ((sgnW n).tdiv 2):=if_neg (fun q=>q.elim (of_decide_eq_false r1) (fun q=>by rw[q] at r2;cases r2))
      dsimp only
      rw[hf,e2]
      exact ⟨.refl _,trivial⟩
    ·have hf:farN (sgnW n)=none:=if_pos (.inl (of_decide_eq_true r1))
     dsimp only
     rw[hf]
     exact ⟨.refl _,trivial⟩
theorem lwR_ro (t:TA) (sect:Nat) (p:Int) (s:List GExpr×Int):toRoL (lwR t sect p s)=lwQ t sect p (GExpr.ros s.1) s.2:=by
 simp only[lwR,lwQ,toRoL,toRo,symR_ror,GString.ror,GExpr.ror]
theorem encS_0 {i:GIns} (h:insE i=true):(GInt.ows (encS i))[0]?=some [AV.int .i64 (codeS i)]∧0 < (GInt.ows (encS i)).length:=by
 rw[encS,if_pos h,GInt.ows_eq]
 exact ⟨rfl,by simp⟩
theorem spec_l16Ins (t:TA) (ht:TAok t) (sect:Nat) (p:Int) (x:GLine) (hk:x.k=3) (hx:lineE x=true) (fl:∀ e∈x.l,FO e) (fs:FO x.src.e) (fd:FO x.dst.e) (h9:sect≤9) (hp0:0≤p) (hp1:p≤65535):Con 304 [.pb (lwR t sect p ([],0)),.agg (GLine.ro x)] (.tup []) [some (.pb (lwR t sect p (insW t sect p x))),none]:=by
 have cS:=spec_l16Opd x.src
 have cD:=spec_l16Opd x.dst
 have hll:=ros_len x.l
 refine conI [] (fun i=>bif Nat.beq i 11 then some (0,323) else none) (fun i=>Nat.beq i 6||Nat.beq i 11) Tryz.func304 (fun _ h=>by cases h) ?_
 apply join
 ·intro J
  refine ⟨fun h6=>?a,fun h6=>⟨fun h15=>?b,fun h15=>?c⟩⟩
  case c=>
   refine ⟨Unit,fun _=>⟨[(0,.ptr 0 0 0),(3,.ptr 1 0 0),(4,.ptr 2 0 0)],[(0,.box (lwR t sect p ([],0)) []),(1,.box (GLine.ro x) []),(2,.box (GIns.ro (ins16 x x.n)) [])]⟩,(),⟨rfl,rfl,rfl,rfl,rfl,rfl,.refl _,.refl _,.of_eq ?_,trivial⟩,J⟩
   rw[ins16,if_neg (of_decide_eq_false h6),if_neg (of_decide_eq_false h15)];rfl
  case a=>
   refine ⟨[.ro],.agg (GOpd.ro (opd16 x.src)),[none],cS,trivial,fun h15=>?_,fun h15=>?_⟩
   ·refine ⟨[.ro],.agg (GOpd.ro (opd16 x.dst)),[none],cD,trivial,?_⟩
    refine ⟨Unit,fun _=>⟨[(0,.ptr 0 0 0),(3,.ptr 1 0 0),(4,.ptr 2 0 0)],[(0,.box (lwR t sect p ([],0)) []),(1,.box (GLine.ro x) []),(2,.box (GIns.ro (ins16 x x.n)) [])]⟩,(),⟨rfl,rfl,rfl,rfl,rfl,rfl,.refl _,.refl _,.of_eq ?_,trivial⟩,J⟩
    rw[ins16,if_pos (of_decide_eq_true h6),if_pos (of_decide_eq_true h15)];rfl
   ·have:=of_decide_eq_true h6
    have:=of_decide_eq_false h15
    omega
  case b=>
   refine ⟨[.ro],.agg (GOpd.ro (opd16 x.dst)),[none],cD,trivial,?_⟩
   refine ⟨Unit,fun _=>⟨[(0,.ptr 0 0 0),(3,.ptr 1 0 0),(4,.ptr 2 0 0)],[(0,.box (lwR t sect p ([],0)) []),(1,.box (GLine.ro x) []),(2,.box (GIns.ro (ins16 x x.n)) [])]⟩,(),⟨rfl,rfl,rfl,rfl,rfl,rfl,.refl _,.refl _,.of_eq ?_,trivial⟩,J⟩
   rw[ins16,if_neg (of_decide_eq_false h6),if_pos (of_decide_eq_true h15)];rfl
 ·intro _
  dsimp only
  apply join
  ·intro J
   refine ⟨fun h=>?a,fun h=>?b⟩
   case b=>
    refine ⟨{u:Unit // (insN t sect p x).2=0},fun _=>⟨[(0,.ptr 0 0 0),(3,.ptr 1 0 0),(4,.ptr 2 0 0)],[(0,.box (lwR t sect p ([],0)) []),(1,.box (GLine.ro x) []),(2,.box (GIns.ro (ins16 x (insN t sect p x).1)) [])]⟩,⟨(),?_⟩,⟨rfl,rfl,rfl,rfl,rfl,rfl,.refl _,.refl _,.of_eq ?_,trivial⟩,J⟩
    ·have h:=of_decide_eq_false h
     have:x.l=[]:=List.eq_nil_of_length_eq_zero (by omega)
     rw[insN,this]
    ·have h:=of_decide_eq_false h
     have:x.l=[]:=List.eq_nil_of_length_eq_zero (by omega)
     rw[insN,this]
   have h:=of_decide_eq_true h
   obtain ⟨y,l,hl⟩:∃ y l,x.l=y::l:=by
    rcases hq:x.l with _ | ⟨y,l⟩
    ·rw[hll,hq] at h;simp at h
    ·exact ⟨y,l,rfl⟩
   have hN:insN t sect p x=farW t sect p x.op y:=by rw[insN,hl]
   have cF:=spec_l16Far t ht sect p ([],0) x y l hl (fl y (by rw[hl];exact List.mem_cons_self)) h9 hp0 hp1
   refine ⟨[.ro,.ro],.tup [.int .i64 (farW t sect p x.op y).1,.int .i64 (farW t sect p x.op y).2],[none,none],by rw[lwR_ro];exact cF,⟨⟨trivial,trivial,trivial⟩,trivial⟩,fun h2=>?_,fun h2=>?_⟩
   ·have h2:=of_decide_eq_true h2
    rw[insW,hN,if_pos h2]
    exact ⟨.refl _,.refl _,trivial⟩
   ·have h2:=of_decide_eq_false h2
    refine ⟨{u:Unit // (insN t sect p x).2=0},fun _=>⟨[(0,.ptr 0 0 0),(3,.ptr 1 0 0),(4,.ptr 2 0 0)],[(0,.box (lwR t sect p ([],0)) []),(1,.box (GLine.ro x) []),(2,.box (GIns.ro (ins16 x (insN t sect p x).1)) [])]⟩,⟨(),by rw[hN];exact Decidable.not_not.1 h2⟩,⟨rfl,rfl,rfl,rfl,rfl,rfl,.refl _,.refl _,.of_eq ?_,trivial⟩,J⟩
    rw[hN];rfl
  ·rintro ⟨_,h0⟩
   dsimp only
   have hi:=ins16_ok (t:=t) (sect:=sect) (p:=p) hk hx h0
   have cE:=spec_Encode (ins16 x (insN t sect p x).1)
   obtain ⟨r0,r1⟩:=encS_0 hi
   rw[insW,if_neg (fun q=>q h0)]
   refine ⟨[.ro],.ow 1 (GInt.ows (encS (ins16 x (insN t sect p x).1))),[none],cE,trivial,by decide,by omega,_,r0,?_⟩
   refine ⟨[.ro],.agg (GExpr.ro (numE (codeS (ins16 x (insN t sect p x).1)))),[none],spec_l10Num _,trivial,?_⟩
   refine ⟨trivial,by decide,⟨⟨trivial,trivial,trivial,trivial,trivial⟩,trivial⟩,by decide,by decide,_,app_at _ _,by kernel_rfl,?_⟩
   have c1:=spec_l16Extra t ht sect p ([numE (codeS (ins16 x (insN t sect p x).1))],0) (by show 1≤300;decide) x.src fs h9 hp0 hp1
   have w1:=(exW_ok (t:=t) (sect:=sect) (p:=p) (s:=([numE (codeS (ins16 x (insN t sect p x).1))],0)) (a:=x.src) (fun w hw=>by rw[List.mem_singleton.1 hw];exact num_ok _)).2.2
   have c2:=spec_l16Extra t ht sect p (exW t sect p ([numE (codeS (ins16 x (insN t sect p x).1))],0) x.src) (by rw[List.length_singleton] at w1;omega) x.dst fd h9 hp0 hp1
   refine ⟨[.mut,.ro],.tup [],[some (.pb (lwR t sect p (exW t sect p ([numE (codeS (ins16 x (insN t sect p x).1))],0) x.src))),none],c1,trivial,?_⟩
   refine ⟨[.mut,.ro],.tup [],[some (.pb (lwR t sect p (exW t sect p (exW t sect p ([numE (codeS (ins16 x (insN t sect p x).1))],0) x.src) x.dst))),none],c2,trivial,?_⟩
   exact ⟨.refl _,.refl _,trivial⟩
end Go.Proofs.VI
