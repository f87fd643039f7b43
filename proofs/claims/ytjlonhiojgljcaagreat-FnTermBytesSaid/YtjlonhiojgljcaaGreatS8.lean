/- Contracts of functions, and what they rest on: l15symb l15symc. -/
import Derived.Test.YtjlonhiojgljcaaGreatS7
set_option linter.unusedVariables false
set_option linter.unusedSimpArgs false
set_option maxRecDepth 10000
set_option maxHeartbeats 4000000
namespace Go.Proofs.VI
open Go
def zPS:PS:=⟨[],[⟨⟨#[99,111,100,101]⟩,false,[]⟩],[],[0],0,0⟩
def curA (p:PS):Int:=p.ats.getD p.sect 0
def passP (l:List GLine):Nat→PS
 | 0=>zPS
 | i+1=>match l[i]? with | some x=>lineP2 (passP l i) (curA (passP l i)) x | none=>passP l i
def endI (l:List GLine):Nat:=l.findIdx fun x=>decide (x.k=8)
theorem endI_le (l:List GLine):endI l≤l.length:=List.findIdx_le_length
structure LineS (p:PS) (x:GLine) (q:PS):Prop where
 okl:lineE x=true
 sect:x.k=6→(q.sects[q.sect]?).map GSect.name=some x.s∧(∃ m,q.sects=p.sects++m)∧(∃ k,q.ats=p.ats++List.replicate k 0)
 word:x.k=3∨x.k=4∨x.k=5→q.sects=p.sects∧q.sect=p.sect∧q.ats=p.ats.set p.sect (curA p+2*wordsOf x)∧(x.k=5→wordsOf x≤256)
 none:¬ (3≤x.k∧x.k≤6)→q.sects=p.sects∧q.sect=p.sect∧q.ats=p.ats
structure OkQ (n:Nat) (p:PS):Prop where
 ok:OkP n p
 nodup:(p.sects.map GSect.name).Nodup
 empty:∀ x∈p.sects,x.words=[]
theorem curA_get {n:Nat} {p:PS} (h:OkP n p):p.ats[p.sect]?=some (curA p):=by
 have h1:=h.here
 have h2:=h.len
 rw[curA,List.getD_eq_getElem?_getD,List.getElem?_eq_getElem (by omega)];rfl
theorem zPS_ok:OkQ 0 zPS:=⟨⟨rfl,by decide,by decide,fun x h=>absurd h (List.not_mem_nil),by decide,List.Pairwise.nil,by decide,fun a h=>by
 have:a=0:=by simpa [zPS] using h
 rw[this];decide⟩,by decide,fun x h=>by
  have:x=⟨⟨#[99,111,100,101]⟩,false,[]⟩:=by simpa [zPS] using h
  rw[this]⟩
theorem OkP.up {n m:Nat} {p:PS} (h:OkP n p) (hm:n≤m):OkP m p:=⟨h.len,h.few,h.here,h.syms,by have:=h.nsym;omega,h.globs,by have:=h.nglob;omega,h.ats⟩
theorem defV_ok {n:Nat} {p:PS} (h:OkQ n p) {s:ByteArray} {e:GExpr} (he:OkX 6 e) (hc:(defV p s e).code=0):OkQ (n+1) (defV p s e)∧(defV p s e).sects=p.sects∧(defV p s e).sect=p.sect∧(defV p s e).ats=p.ats:=by
 rw[defV] at hc⊢
 split at hc
 ·cases hc
 ·rename_i g
  rw[if_neg g]
  refine ⟨⟨⟨h.ok.len,h.ok.few,h.ok.here,fun x hx=>?_,?_,h.ok.globs,by have:=h.ok.nglob;show p.globs.length≤_;omega,h.ok.ats⟩,h.nodup,h.empty⟩,rfl,rfl,rfl⟩
  ·rcases List.mem_append.1 hx with q | q
   ·exact h.ok.syms x q
   ·rw[List.mem_singleton.1 q];exact he
  ·have:=h.ok.nsym
   show (p.syms++[_]).length≤_
   rw[List.length_append,List.length_singleton];omega
theorem line_step {n:Nat} {p:PS} (h:OkQ n p) {x:GLine} (fe:∀ e∈x.l,FO e) (hc:(lineP2 p (curA p) x).code=0):OkQ (n+1) (lineP2 p (curA p) x)∧LineS p x (lineP2 p (curA p) x):=by
 have hcur:=curA_get h.ok
 have ha:=h.ok.ats _ (List.mem_of_getElem? hcur)
 have h8:=h.ok.few
 have h3:=h.ok.here
 rw[lineP2] at hc⊢
 split at hc
 ·cases hc
 ·rename_i hE
  rw[if_neg hE]
  have hE:lineE x=true:=by simpa using hE
  split at hc
  ·rename_i k1
   rw[if_pos k1]
   obtain ⟨g1,g2,g3,g4⟩:=defV_ok h (hereV_fo (sect:=p.sect) (a:=curA p) (by omega) (by omega) (by omega)) hc
   exact ⟨g1,hE,fun k=>by omega,fun k=>by omega,fun _=>⟨g2,g3,g4⟩⟩
  ·rename_i k1
   rw[if_neg k1]
   split at hc
   ·rename_i k2
    rw[if_pos k2]
    obtain ⟨e,he⟩:=lineE_one hE (.inl k2)
    have me:e∈x.l:=by rw[he];exact List.mem_cons_self
    have e2:setL p (curA p) x x.l=setP p (curA p) x e:=by rw[he];rfl
    rw[e2] at hc⊢
    rw[setP] at hc⊢
    split at hc
    ·rename_i g
     rw[if_pos g]
     rw[Bool.and_eq_true] at g
     obtain ⟨g1,g2,g3,g4⟩:=defV_ok h ((okE_six _).1 (by rw[foldX_okE];exact g.1)) hc
     exact ⟨g1,hE,fun k=>by omega,fun k=>by omega,fun _=>⟨g2,g3,g4⟩⟩
    ·cases hc
   ·rename_i k2
    rw[if_neg k2]
    split at hc
    ·rename_i k6
     rw[if_pos k6]
     rw[sectV] at hc⊢
     split at hc
     ·rename_i y hy
      obtain ⟨hk,hy2⟩:=List.getElem?_eq_some_iff.1 hy
      have hn:y.name=x.s:=by
       have:=List.findIdx_getElem (w:=hk)
       rw[←hy2];exact of_decide_eq_true this
      refine ⟨⟨⟨h.ok.len,h.ok.few,hk,h.ok.syms,by have:=h.ok.nsym;show p.syms.length≤_;omega,h.ok.globs,by have:=h.ok.nglob;show p.globs.length≤_;omega,h.ok.ats⟩,h.nodup,h.empty⟩,hE,fun _=>⟨?_,⟨[],(List.append_nil _).symm⟩,⟨0,(List.append_nil _).symm⟩⟩,fun k=>by omega,fun k=>absurd (⟨by omega,by omega⟩:3≤x.k∧x.k≤6) k⟩
      show (p.sects[secAtI p.sects x.s]?).map GSect.name=some x.s
      rw[hy];exact congrArg some hn
     ·rename_i hno
      split at hc
      ·cases hc
      ·rename_i h9
       rw[if_neg h9]
       have hno:=List.getElem?_eq_none_iff.1 hno
       have hne:∀ y∈p.sects,¬ y.name=x.s:=fun y hy e=>by
        have:=List.findIdx_lt_length_of_exists (p:=fun z:GSect=>decide (z.name=x.s)) ⟨y,hy,by simpa using e⟩
        rw[secAtI] at hno;omega
       have hl:=h.ok.len
       refine ⟨⟨⟨?_,?_,?_,h.ok.syms,by have:=h.ok.nsym;show p.syms.length≤_;omega,h.ok.globs,by have:=h.ok.nglob;show p.globs.length≤_;omega,fun a ha=>?_⟩,?_,fun y hy=>?_⟩,hE,fun _=>⟨?_,⟨_,rfl⟩,⟨1,rfl⟩⟩,fun k=>by omega,fun k=>absurd (⟨by omega,by omega⟩:3≤x.k∧x.k≤6) k⟩
       ·show (p.ats++[0]).length=(p.sects++[_]).length
        rw[List.length_append,List.length_append,hl];rfl
       ·show (p.sects++[_]).length≤8
        rw[List.length_append,List.length_singleton];omega
       ·show p.sects.length < (p.sects++[_]).length
        rw[List.length_append,List.length_singleton];omega
       ·rcases List.mem_append.1 ha with q | q
        ·exact h.ok.ats a q
        ·rw[List.mem_singleton.1 q];decide
       ·show ((p.sects++[_]).map GSect.name).Nodup
        rw[List.map_append,List.nodup_append]
        refine ⟨h.nodup,by simp,fun u hu v hv e=>?_⟩
        obtain ⟨y,hy,hu⟩:=List.mem_map.1 hu
        have hv:v=x.s:=by simpa using hv
        exact hne y hy (by rw[hu,e,hv])
       ·rcases List.mem_append.1 hy with q | q
        ·exact h.empty y q
        ·rw[List.mem_singleton.1 q]
       ·show ((p.sects++[(⟨x.s,decide (x.n=1),[]⟩:GSect)])[p.sects.length]?).map GSect.name=some x.s
        rw[List.getElem?_append_right (Nat.le_refl _),Nat.sub_self];rfl
    ·rename_i k6
     rw[if_neg k6]
     split at hc
     ·rename_i k7
      rw[if_pos k7]
      have hl:=lineE_len hE
      have h9:=@insS_len2 x.l p.globs
      refine ⟨⟨⟨h.ok.len,h.ok.few,h.ok.here,h.ok.syms,by have:=h.ok.nsym;show p.syms.length≤_;omega,insS_sorted2 h.ok.globs,?_,h.ok.ats⟩,h.nodup,h.empty⟩,hE,fun k=>by omega,fun k=>by omega,fun _=>⟨rfl,rfl,rfl⟩⟩
      have:=h.ok.nglob
      show (insAll x.l p.globs).length≤_
      omega
     ·rename_i k7
      rw[if_neg k7]
      split at hc
      ·rename_i k345
       rw[if_pos k345]
       rw[growP] at hc⊢
       split at hc
       ·cases hc
       ·rename_i g
        rw[if_neg g]
        rw[growV] at hc⊢
        have hle:¬ 512 < curA p+2*wordsOf x:=fun q=>by
         have hc:(if 512 < curA p+2*wordsOf x then (6:Int) else p.code)=0:=hc
         rw[if_pos q] at hc;cases hc
        have hl:=lineE_len hE
        have hw:=words_in x (by omega)
        refine ⟨⟨⟨?_,h.ok.few,h.ok.here,h.ok.syms,by have:=h.ok.nsym;show p.syms.length≤_;omega,h.ok.globs,by have:=h.ok.nglob;show p.globs.length≤_;omega,fun b hb=>?_⟩,h.nodup,h.empty⟩,hE,fun k=>by omega,fun _=>⟨rfl,rfl,rfl,fun k5=>?_⟩,fun k=>absurd (⟨by omega,by omega⟩:3≤x.k∧x.k≤6) k⟩
        ·show (p.ats.set _ _).length=_
         rw[List.length_set];exact h.ok.len
        ·rcases List.mem_or_eq_of_mem_set hb with q | q
         ·exact h.ok.ats b q
         ·omega
        ·have hk:kOk x=true:=by
          cases hk:kOk x with
          | true=>rfl
          | false=>exact absurd ⟨k5,hk⟩ g
         obtain ⟨e,he⟩:=lineE_one hE (.inr k5)
         rw[kOk,he] at hk
         rw[wordsOf,if_neg (by omega),if_neg (by omega),if_pos k5,he]
         dsimp only at hk⊢
         rcases hq:knownE e with _ | v
         ·decide
         ·rw[hq] at hk
          exact of_decide_eq_true hk
      ·rename_i k345
       rw[if_neg k345]
       exact ⟨⟨h.ok.up (by omega),h.nodup,h.empty⟩,hE,fun k=>by omega,fun k=>absurd k k345,fun _=>⟨rfl,rfl,rfl⟩⟩
theorem passP_step {l:List GLine} {i:Nat} (hi:i < l.length):passP l (i+1)=lineP2 (passP l i) (curA (passP l i)) l[i]:=by
 rw[passP,List.getElem?_eq_getElem hi]
theorem passP_ok {l:List GLine} (fl:∀ x∈l,∀ e∈x.l,FO e):∀ i,i≤l.length→(∀ j,j≤i→(passP l j).code=0)→OkQ i (passP l i)
 | 0,_,_=>zPS_ok
 | i+1,hi,hc=>by
  have ih:=passP_ok fl i (by omega) fun j hj=>hc j (by omega)
  have h1:=hc (i+1) (Nat.le_refl _)
  rw[passP_step (by omega)] at h1⊢
  exact (line_step ih (fl _ (List.getElem_mem _)) h1).1
def secN (a:Int):Nat:=((a+1) /2).toNat
def fillS (l:List GSect) (ats:List Int):Nat→List GSect
 | 0=>l
 | i+1=>(fillS l ats i).modify i fun x=>{x with words:=List.replicate (secN (ats.getD i 0)) (numE 0)}
structure TB where
 syms:List GSym
 sects:List GSect
 globs:List GString
def tbR (t:TB):List AV:=[.ro 5 (symRs t.syms),.ow 3 (secRs t.sects),.ro 1 (GString.ros t.globs)]
def tbOf (p:PS):TB:=⟨p.syms,fillS p.sects p.ats p.sects.length,p.globs⟩
def failI (l:List GLine):Option Nat:=(List.range (endI l)).find? fun i=>decide ((passP l (i+1)).code≠0)
theorem fillS_len (l:List GSect) (a:List Int):∀ k,(fillS l a k).length=l.length
 | 0=>rfl
 | k+1=>by rw[fillS,List.length_modify,fillS_len l a k]
theorem modify_id {α:Type} {l:List α} {k:Nat} {f:α→α} {y:α} (h:l[k]?=some y) (hf:f y=y):l.modify k f=l:=by
 refine List.ext_getElem? fun i=>?_
 rw[List.getElem?_modify]
 by_cases e:k=i
 ·subst e;rw[h];simp[hf]
 ·simp[e]
theorem fillS_ge (l:List GSect) (a:List Int):∀ (k i:Nat),k≤i→(fillS l a k)[i]?=l[i]?
 | 0,i,_=>rfl
 | k+1,i,h=>by
  have e:¬ k=i:=by omega
  rw[fillS,List.getElem?_modify,←fillS_ge l a k i (by omega)]
  cases (fillS l a k)[i]?<;>simp[e]
theorem set_mod {α:Type} {l:List α} {k:Nat} {f:α→α} {y:α} (h:k < l.length):(l.set k y).modify k f=l.set k (f y):=by
 refine List.ext_getElem? fun i=>?_
 rw[List.getElem?_modify,List.getElem?_set,List.getElem?_set]
 by_cases e:k=i
 ·subst e;simp[h]
 ·simp[e]
def symT (l:List GLine):TB×Int×Int:=match failI l with | some i=>(⟨[],[],[]⟩,(passP l (i+1)).code,i) | none=>(tbOf (passP l (endI l)),0,-1)
theorem tb_zero:Sim (.agg [.nils,.nils,.nils]) (.agg (tbR ⟨[],[],[]⟩)):= .agg (.cons (.nilr 5) (.cons (.nil 3) (.cons (.nilr 1) (.refl _))))
theorem spec_l15Start:Con 280 [] (.pb (pRow zPS)) []:=by
 refine con Tryz.func280 ?_
 refine ⟨.pb (.cons (.nil 5) (.cons (.ow (.cons (.cons (.refl _) (.cons .ff (.cons (.nil 4) (.refl _)))) (.refl _))) (.cons (.nilr 1) (.refl _)))),trivial⟩
theorem endI_lt {l:List GLine} {i:Nat} (hi:i≤endI l) (h:i < l.length) (h8:l[i].k≠8):i < endI l:=by
 rcases Nat.lt_or_ge i (endI l) with g | g
 ·exact g
 ·exfalso
  have e:endI l=i:=by omega
  have he:=endI_le l
  have:=List.findIdx_getElem (p:=fun x:GLine=>decide (x.k=8)) (xs:=l) (w:=by show endI l < l.length;omega)
  have h9:(l[endI l]'(by omega)).k=8:=of_decide_eq_true this
  simp only[e] at h9
  exact h8 h9
theorem endI_eq {l:List GLine} {i:Nat} (hi:i≤endI l) (h:i < l.length) (h8:l[i].k=8):i=endI l:=by
 rcases Nat.lt_or_ge i (endI l) with g | g
 ·have:=List.not_of_lt_findIdx g
  simp[h8] at this
 ·omega
theorem symT_fin {l:List GLine} {i:Nat} (hc:∀ j,j≤i→(passP l j).code=0) (e:i=endI l):symT l=(tbOf (passP l i),0,-1):=by
 have hn:failI l=none:=by
  rw[failI,List.find?_eq_none]
  intro j hj
  have hj:=List.mem_range.1 hj
  simpa using hc (j+1) (by omega)
 rw[symT,hn,e]
theorem symT_bad {l:List GLine} {i:Nat} (hi:i < endI l) (hc:∀ j,j≤i→(passP l j).code=0) (hz:(passP l (i+1)).code≠0):symT l=((⟨[],[],[]⟩:TB),(passP l (i+1)).code,(i:Int)):=by
 have hn:failI l=some i:=by
  rw[failI,List.find?_range_eq_some]
  refine ⟨by simpa using hz,List.mem_range.2 hi,fun j hj=>?_⟩
  simpa using hc (j+1) (by omega)
 rw[symT,hn]
theorem spec_Symbols (l:List GLine) (hl:l.length≤100000) (hf:∀ x∈l,GLine.fit x∧GLine.ok x):Con 245 [.ro 17 (GLine.ros l)] (.tup [.agg (tbR (symT l).1),.int .i64 (symT l).2.1,.int .i64 (symT l).2.2]) [none]:=by
 have fl:∀ x∈l,∀ e∈x.l,FO e:=fun x hx e he=>⟨(GLine.fit_un (hf x hx).1).2.2.2 e he,(GLine.ok_un (hf x hx).2).2.2.2.2.2.2.2 e he⟩
 have hlen:(GLine.ros l).length=l.length:=line_len l
 have he:=endI_le l
 refine conI [] (fun i=>bif Nat.beq i 17||Nat.beq i 15 then some (5,300) else none) (fun i=>Nat.beq i 8) Tryz.func245 (fun _ h=>by cases h) ?_
 apply join
 ·intro J
  refine ⟨[],.pb (pRow zPS),[],spec_l15Start,trivial,?_⟩
  refine ⟨{i:Nat // i≤endI l∧∀ j,j≤i→(passP l j).code=0},fun i=>⟨[(0,.ro 17 (GLine.ros l)),(2,.ptr 0 0 0),(5,.ptr 1 0 0),(6,.int .i64 i.1)],[(0,.box GTable.zero []),(1,.box (pRow (passP l i.1)) [])]⟩,fun i=>endI l - i.1,⟨0,Nat.zero_le _,fun j hj=>(Nat.le_zero.1 hj)▸rfl⟩,?_,?_⟩
  ·exact ⟨rfl,rfl,rfl,rfl,rfl,rfl,.refl _,.refl _,trivial⟩
  ·rintro ⟨i,hi,hc⟩
   dsimp only
   refine ⟨fun h=>?a,fun h=>?b⟩
   case b=>
    refine ⟨{P:PS // OkQ (endI l) P∧symT l=(tbOf P,0,-1)},fun P=>⟨[(2,.ptr 0 0 0),(5,.ptr 1 0 0)],[(0,.box GTable.zero []),(1,.box (pRow P.1) [])]⟩,⟨passP l i,?_⟩,⟨rfl,rfl,rfl,rfl,.refl _,.refl _,trivial⟩,J⟩
    have h:=of_decide_eq_false h
    rw[hlen] at h
    have e:i=endI l:=by omega
    exact ⟨e▸passP_ok fl i (by omega) hc,symT_fin hc e⟩
   have ok:=passP_ok fl i (by omega) hc
   have e1:IntKind.wrap .i64 ((i:Int)+1)=((i+1:Nat):Int):=w64 (by omega) (by omega)
   have h:=of_decide_eq_true h
   rw[hlen] at h
   have hi2:i < l.length:=by omega
   have hrow:(GLine.ros l)[i]?=some (GLine.ro l[i]):=map_get _ _ hi2
   refine ⟨Int.natCast_nonneg _,_,hrow,fun h8=>?_,fun h8=>?_⟩
   ·have h8:=of_decide_eq_true h8
    have hie:=endI_lt hi hi2 h8
    have cL:=spec_l15Line i (passP l i) ok.ok (by omega) (curA (passP l i)) (curA_get ok.ok) l[i] (hf _ (List.getElem_mem hi2)).1 (hf _ (List.getElem_mem hi2)).2
    rw[←passP_step hi2] at cL
    refine ⟨Int.natCast_nonneg _,_,hrow,?_⟩
    refine ⟨[.mut,.ro],.tup [],[some (.pb (pRow (passP l (i+1)))),none],cL,trivial,fun hz=>?_,fun hz=>?_⟩
    ·have hz:=of_decide_eq_true hz
     rw[symT_bad hie hc hz]
     refine ⟨by kernel_rfl,?_⟩
     exact ⟨.tup (.cons tb_zero (.refl _)),trivial⟩
    ·have hz:=of_decide_eq_false hz
     refine ⟨⟨i+1,hie,fun j hj=>?_⟩,Nat.sub_succ_lt_self _ _ hie,rfl,rfl,rfl,rfl,rfl,congrArg (AV.int .i64) e1,.refl _,.refl _,trivial⟩
     rcases Nat.lt_succ_iff_lt_or_eq.1 (Nat.lt_succ_of_le hj) with g | g
     ·exact hc j (by omega)
     ·subst g;exact Decidable.not_not.1 hz
   ·have h8:l[i].k=8:=by simpa using h8
    have e:=endI_eq hi hi2 h8
    exact ⟨{P:PS // OkQ (endI l) P∧symT l=(tbOf P,0,-1)},fun P=>⟨[(2,.ptr 0 0 0),(5,.ptr 1 0 0)],[(0,.box GTable.zero []),(1,.box (pRow P.1) [])]⟩,⟨passP l i,e▸ok,symT_fin hc e⟩,⟨rfl,rfl,rfl,rfl,.refl _,.refl _,trivial⟩,J⟩
 ·rintro ⟨P,ok,hfin⟩
  dsimp only
  rw[hfin]
  dsimp only
  have hok:=ok.ok
  have hlen2:=hok.len
  have hemp:=ok.empty
  have h8s:=hok.few
  have hS:=secRs_len
  refine ⟨{k:Nat // k≤P.sects.length},fun k=>⟨[(2,.ptr 0 0 0),(5,.ptr 1 0 0),(7,.int .i64 k.1)],[(0,.box GTable.zero []),(1,.box (pRow {P with sects:=fillS P.sects P.ats k.1}) [])]⟩,fun k=>P.sects.length - k.1,⟨0,Nat.zero_le _⟩,?_,?_⟩
  ·exact ⟨rfl,rfl,rfl,rfl,rfl,.refl _,.refl _,trivial⟩
  ·rintro ⟨k,hk⟩
   dsimp only
   have e2:IntKind.wrap .i64 ((k:Int)+1)=((k+1:Nat):Int):=w64 (by omega) (by omega)
   have hfl:=fillS_len P.sects P.ats k
   have hla:(GInt.ows P.ats).length=P.ats.length:=by simp
   refine ⟨fun g=>?_,fun g=>?_⟩
   ·have g:=of_decide_eq_true g
    rw[hS,hfl] at g
    have hk2:k < P.sects.length:=by omega
    have hka:k < P.ats.length:=by omega
    have har:=hok.ats _ (List.getElem_mem hka)
    obtain ⟨⟨nm,ov,w0⟩,hsec⟩:∃ y,P.sects[k]?=some y:=⟨_,List.getElem?_eq_getElem hk2⟩
    have hw0:w0=[]:=hemp _ (List.mem_of_getElem? hsec)
    subst hw0
    have hsec2:=(fillS_ge P.sects P.ats k k (Nat.le_refl _)).trans hsec
    have hmod (n:Nat):(secRs ((fillS P.sects P.ats k).modify k fun x=>{x with words:=List.replicate n (numE 0)}))=(secRs (fillS P.sects P.ats k)).set k [.str nm,.bool ov,.ow 4 (GExpr.ros (List.replicate n (numE 0)))]:=by
     refine List.ext_getElem? fun q=>?_
     rw[List.getElem?_map,List.getElem?_modify,List.getElem?_set]
     by_cases e:k=q
     ·subst e
      rw[if_pos rfl,hsec2,if_pos (by rw[hS,hfl];omega)];simp;rfl
     ·rw[if_neg e,List.getElem?_map]
      cases (fillS P.sects P.ats k)[q]?<;>simp[e]
    have hrow:(GInt.ows P.ats)[(k:Int).toNat]?=some [AV.int .i64 P.ats[k]]:=by rw[Int.toNat_natCast];simp[hka];rfl
    refine ⟨{j:Nat // j≤secN P.ats[k]},fun j=>⟨[(2,.ptr 0 0 0),(5,.ptr 1 0 0),(7,.int .i64 k),(8,.int .i64 (2*j.1:Nat))],[(0,.box GTable.zero []),(1,.box (pRow {P with sects:=(fillS P.sects P.ats k).modify k fun x=>{x with words:=List.replicate j.1 (numE 0)}}) [])]⟩,fun j=>secN P.ats[k] - j.1,⟨0,Nat.zero_le _⟩,?_,?_⟩
    ·refine ⟨rfl,rfl,rfl,rfl,rfl,rfl,.refl _,?_,trivial⟩
     rw[modify_id hsec2 rfl]
     exact .refl _
    ·rintro ⟨j,hj⟩
     dsimp only
     refine ⟨Int.natCast_nonneg _,by rw[hla];omega,_,hrow,fun g2=>?_,fun g2=>?_⟩
     ·have g2:=of_decide_eq_true g2
      have hjs:j < secN P.ats[k]:=by rw[secN];omega
      have e4:IntKind.wrap .i64 (((2*j:Nat):Int)+2)=((2*(j+1):Nat):Int):=by rw[w64 (by omega) (by omega)];omega
      have hml:(secRs ((fillS P.sects P.ats k).modify k fun x=>{x with words:=List.replicate j (numE 0)})).length=P.sects.length:=by rw[hS,List.length_modify,hfl]
      have hr2:(secRs ((fillS P.sects P.ats k).modify k fun x=>{x with words:=List.replicate j (numE 0)}))[(k:Int).toNat]?=some [.str nm,.bool ov,.ow 4 (GExpr.ros (List.replicate j (numE 0)))]:=by
       rw[Int.toNat_natCast,hmod,List.getElem?_set_self (by rw[hS,hfl];omega)]
      have hbd:((GExpr.ros (List.replicate j (numE 0))).length+1)*56≤140737488355328:=by rw[ros_len,List.length_replicate];omega
      have hW:GExpr.ros (List.replicate j (numE 0))++[[AV.int .i64 (numE 0).k,AV.int .i64 (numE 0).n,AV.str (numE 0).s,AV.ro 4 (GExpr.ros (numE 0).l)]]=GExpr.ros (List.replicate (j+1) (numE 0)):=by
       rw[row_cat,List.replicate_succ']
      have hfin (W:List (List AV)) (e:W=GExpr.ros (List.replicate (j+1) (numE 0))):(((secRs ((fillS P.sects P.ats k).modify k fun x=>{x with words:=List.replicate j (numE 0)})).set (k:Int).toNat [.str nm,.bool ov,.nilp]).modify (k:Int).toNat fun row=>row.set (0+2) (.ow 4 W))=secRs ((fillS P.sects P.ats k).modify k fun x=>{x with words:=List.replicate (j+1) (numE 0)}):=by
       rw[hmod,hmod,Int.toNat_natCast,List.set_set,set_mod (by rw[hS,hfl];omega),e];rfl
      have hz:(GExpr.ros (List.replicate j (numE 0))++[[AV.int .i64 0,AV.int .i64 0,AV.str ⟨#[]⟩,AV.nils]])[((GExpr.ros (List.replicate j (numE 0))).length:Int).toNat]?=some [AV.int .i64 0,AV.int .i64 0,AV.str ⟨#[]⟩,AV.nils]:=by
       rw[Int.toNat_natCast,List.getElem?_append_right (Nat.le_refl _),Nat.sub_self];rfl
      have hzs (r:List AV):(GExpr.ros (List.replicate j (numE 0))++[[AV.int .i64 0,AV.int .i64 0,AV.str ⟨#[]⟩,AV.nils]]).set ((GExpr.ros (List.replicate j (numE 0))).length:Int).toNat r=GExpr.ros (List.replicate j (numE 0))++[r]:=by
       rw[Int.toNat_natCast,List.set_append_right _ _ (Nat.le_refl _),Nat.sub_self];rfl
      intro b v
      refine ⟨fun hb=>?_,fun hb=>?_⟩
      ·refine ⟨Int.natCast_nonneg _,by rw[hml];omega,_,hr2,?_⟩
       refine ⟨[.ro],.agg (GExpr.ro (numE 0)),[none],spec_l10Num 0,trivial,?_⟩
       refine ⟨trivial,hbd,⟨⟨trivial,trivial,trivial,trivial,trivial⟩,trivial⟩,Int.natCast_nonneg _,by rw[hml];omega,_,hr2,true,rfl,by kernel_rfl,?_⟩
       refine ⟨Int.natCast_nonneg _,by rw[List.length_append,List.length_singleton];omega,_,hz,?_⟩
       refine ⟨⟨j+1,hjs⟩,Nat.sub_succ_lt_self _ _ hjs,rfl,rfl,rfl,rfl,rfl,congrArg (AV.int .i64) e4,.refl _,.of_eq (congrArg (fun z=>[[AV.ow 5 (symRs P.syms),AV.ow 3 z,AV.ro 1 (GString.ros P.globs),AV.ow 1 (GInt.ows P.ats),AV.int .i64 P.sect,AV.int .i64 P.code]]) (hfin _ ((hzs _).trans hW))),trivial⟩
      ·refine ⟨Int.natCast_nonneg _,by rw[hml];omega,_,hr2,?_⟩
       refine ⟨[.ro],.agg (GExpr.ro (numE 0)),[none],spec_l10Num 0,trivial,?_⟩
       refine ⟨trivial,hbd,⟨⟨trivial,trivial,trivial,trivial,trivial⟩,trivial⟩,Int.natCast_nonneg _,by rw[hml];omega,_,hr2,true,rfl,by kernel_rfl,?_⟩
       refine ⟨⟨j+1,hjs⟩,Nat.sub_succ_lt_self _ _ hjs,rfl,rfl,rfl,rfl,rfl,congrArg (AV.int .i64) e4,.refl _,.of_eq (congrArg (fun z=>[[AV.ow 5 (symRs P.syms),AV.ow 3 z,AV.ro 1 (GString.ros P.globs),AV.ow 1 (GInt.ows P.ats),AV.int .i64 P.sect,AV.int .i64 P.code]]) (hfin _ hW)),trivial⟩
     ·have g2:=of_decide_eq_false g2
      have hjs:j=secN P.ats[k]:=by rw[secN] at hj⊢;omega
      refine ⟨⟨k+1,hk2⟩,Nat.sub_succ_lt_self _ _ hk2,rfl,rfl,rfl,rfl,congrArg (AV.int .i64) e2,.refl _,?_,trivial⟩
      rw[hjs,fillS,List.getD_eq_getElem?_getD,List.getElem?_eq_getElem hka]
      exact .refl _
   ·have g:=of_decide_eq_false g
    rw[hS,hfl] at g
    have:k=P.sects.length:=by omega
    subst this
    refine ⟨.tup (.cons (.agg (.cons (.trans (.frz _) (.of_eq (congrArg (AV.ro 5) (symR_ror _)))) (.refl _))) (.refl _)),trivial⟩
end Go.Proofs.VI
