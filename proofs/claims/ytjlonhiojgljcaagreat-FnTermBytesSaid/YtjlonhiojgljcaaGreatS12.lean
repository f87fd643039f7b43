/- Contracts of functions, and what they rest on: l16asm l16asc. -/
import Derived.Test.YtjlonhiojgljcaaGreatS11
set_option linter.unusedVariables false
set_option linter.unusedSimpArgs false
set_option maxRecDepth 10000
set_option maxHeartbeats 4000000
namespace Go.Proofs.VI
open Go
def sz63 (s:ByteArray):Prop:=s.size≤9223372036854775807
structure OkN (p:PS):Prop where
 sects:∀ y∈p.sects,sz63 y.name
 globs:∀ g∈p.globs,sz63 g
theorem insAll_mem:∀ {l:List GExpr} {g:List GString} {s:ByteArray},s∈insAll l g→(∃ e∈l,s=e.s)∨s∈g
 | [],g,s,h=> .inr h
 | e::l,g,s,h=>by
  rcases insAll_mem (l:=l) h with ⟨x,hx,hs⟩ | h
  ·exact .inl ⟨x,List.mem_cons_of_mem _ hx,hs⟩
  ·rcases (insS_mem _ _ _).1 h with h | h
   ·exact .inl ⟨e,List.mem_cons_self,h⟩
   ·exact .inr h
theorem defV_nm {p:PS} (h:OkN p) (s:ByteArray) (e:GExpr):OkN (defV p s e):=by
 rw[defV];split
 ·exact ⟨h.sects,h.globs⟩
 ·exact ⟨h.sects,h.globs⟩
theorem line_nm {p:PS} (h:OkN p) {x:GLine} (a:Int) (hs:sz63 x.s) (hl:∀ e∈x.l,sz63 e.s):OkN (lineP2 p a x):=by
 rw[lineP2]
 split
 ·exact ⟨h.sects,h.globs⟩
 split
 ·exact defV_nm h _ _
 split
 ·rw[setL.eq_def]
  split
  ·rw[setP]
   split
   ·exact defV_nm h _ _
   ·exact ⟨h.sects,h.globs⟩
  ·exact h
 split
 ·rw[sectV]
  split
  ·exact ⟨h.sects,h.globs⟩
  ·split
   ·exact ⟨h.sects,h.globs⟩
   ·refine ⟨fun y hy=>?_,h.globs⟩
    rcases List.mem_append.1 hy with q | q
    ·exact h.sects y q
    ·rw[List.mem_singleton.1 q];exact hs
 split
 ·refine ⟨h.sects,fun g hg=>?_⟩
  rcases insAll_mem hg with ⟨e,he,rfl⟩ | q
  ·exact hl e he
  ·exact h.globs g q
 split
 ·rw[growP]
  split
  ·exact ⟨h.sects,h.globs⟩
  ·exact ⟨h.sects,h.globs⟩
 ·exact h
theorem pass_nm {l:List GLine} (hs:∀ x∈l,sz63 x.s∧∀ e∈x.l,sz63 e.s):∀ i,OkN (passP l i)
 | 0=>⟨fun y hy=>by
   have:y=⟨⟨#[99,111,100,101]⟩,false,[]⟩:=by simpa [passP,zPS] using hy
   rw[this];show (4:Nat)≤_;decide,fun g hg=>absurd hg (List.not_mem_nil)⟩
 | i+1=>by
  rw[passP]
  split
  ·rename_i x hx
   have hm:=List.mem_of_getElem? hx
   exact line_nm (pass_nm hs i) _ (hs x hm).1 (hs x hm).2
  ·exact pass_nm hs i
def gsF (syms:List GSym) (g:GString):List GGlob:=if 0≤symAt syms g then (match syms[(symAt syms g).toNat]? with | some y=>[⟨g,y.e⟩] | none=>[]) else []
def gsV (syms:List GSym) (l:List GString):List GGlob:=l.flatMap (gsF syms)
theorem gsV_take {syms:List GSym} {l:List GString} {i:Nat} (hi:i < l.length):gsV syms (l.take (i+1))=gsV syms (l.take i)++gsF syms l[i]:=by
 have e:l.take (i+1)=l.take i++[l[i]]:=by rw[List.take_succ,List.getElem?_eq_getElem hi];rfl
 rw[gsV,e,List.flatMap_append];simp[gsV]
theorem gsF_len (syms:List GSym) (g:GString):(gsF syms g).length≤1:=by
 rw[gsF];split
 ·split<;>simp
 ·simp
theorem gsV_len (syms:List GSym):∀ (l:List GString),(gsV syms l).length≤l.length
 | []=>by simp[gsV]
 | g::l=>by
  have h1:=gsF_len syms g
  have h2:=gsV_len syms l
  simp only[gsV,List.flatMap_cons,List.length_append,List.length_cons] at h2⊢
  omega
theorem gsV_mem {syms:List GSym} {l:List GString} {y:GGlob} (h:y∈gsV syms l):y.name∈l∧∃ z∈syms,y.e=z.e:=by
 obtain ⟨g,hg,hy⟩:=List.mem_flatMap.1 h
 rw[gsF] at hy
 split at hy
 ·split at hy
  ·rename_i z hz
   rw[List.mem_singleton.1 hy]
   exact ⟨hg,z,List.mem_of_getElem? hz,rfl⟩
  ·exact absurd hy List.not_mem_nil
 ·exact absurd hy List.not_mem_nil
theorem symAt_lt {l:List GSym} {s:ByteArray} (h:0≤symAt l s):(symAt l s).toNat < l.length:=by
 rw[symAt] at h⊢
 split at h
 ·rename_i g
  rw[if_pos g];omega
 ·omega
def zObj:GObj:=⟨[],[]⟩
theorem zObj_ok:objE zObj=true∧GObj.fit zObj∧GObj.ok zObj:=by
 refine ⟨dec_true ⟨⟨by decide,by decide⟩,fun i h=>absurd h (Nat.not_lt_zero _),fun i h=>absurd h (Nat.not_lt_zero _)⟩,?_,?_⟩
 ·exact ⟨⟨by decide,fun x h=>absurd h List.not_mem_nil⟩,⟨by decide,fun x h=>absurd h List.not_mem_nil⟩⟩
 ·exact ⟨⟨by decide,fun x h=>absurd h List.not_mem_nil⟩,⟨by decide,fun x h=>absurd h List.not_mem_nil⟩⟩
def asmO (l:List GLine):GObj:=⟨(g2 l (endI l)).sects,gsV (finP l).syms (finP l).globs⟩
theorem asmO_ok {l:List GLine} (g:Goes l) (hc:∀ j,j < endI l→g2c l j=0) (hl:l.length≤100000) (hs:∀ x∈l,sz63 x.s∧∀ e∈x.l,sz63 e.s):GObj.fit (asmO l)∧GObj.ok (asmO l):=by
 have hle:=endI_le l
 have hG:=g2_ok g _ (Nat.le_refl _) hc
 have hF:=g.okq (Nat.le_refl (endI l))
 have hN:=pass_nm hs (endI l)
 have h8:=hF.ok.few
 have hg:=hF.ok.nglob
 have hlen:(g2 l (endI l)).sects.length≤8:=by rw[hG.len];exact h8
 have hgl:=gsV_len (finP l).syms (finP l).globs
 have hgl2:(finP l).globs.length≤6*endI l:=hg
 have hw:∀ y∈(g2 l (endI l)).sects,y.words.length≤256:=fun y hy=>by
  obtain ⟨j,hj,rfl⟩:=List.mem_iff_getElem.1 hy
  obtain ⟨a,ha,hw⟩:=hG.wl j _ (List.getElem?_eq_getElem hj)
  have:=hF.ok.ats a (List.mem_of_getElem? ha)
  rw[hw,secN];omega
 have hnm:∀ y∈(g2 l (endI l)).sects,sz63 y.name:=fun y hy=>by
  have:y.name∈(finP l).sects.map GSect.name:=by rw[←hG.nm];exact List.mem_map_of_mem hy
  obtain ⟨z,hz,e⟩:=List.mem_map.1 this
  rw[←e];exact hN.sects z hz
 have hge:∀ y∈gsV (finP l).syms (finP l).globs,sz63 y.name∧FO y.e:=fun y hy=>by
  obtain ⟨h1,z,hz,e⟩:=gsV_mem hy
  exact ⟨hN.globs _ h1,by rw[e];exact okx_fo (hF.ok.syms z hz)⟩
 refine ⟨⟨⟨by show (g2 l (endI l)).sects.length≤_;omega,fun y hy=>⟨by have:=hw y hy;omega,fun w hww=>(okx_fo (hG.ok y hy w hww)).1⟩⟩,⟨by show (gsV _ _).length≤_;omega,fun y hy=>(hge y hy).2.1⟩⟩,⟨⟨by show (g2 l (endI l)).sects.length≤_;omega,fun y hy=>⟨hnm y hy,trivial,by have:=hw y hy;omega,fun w hww=>(okx_fo (hG.ok y hy w hww)).2⟩⟩,⟨by show (gsV _ _).length≤_;omega,fun y hy=>⟨(hge y hy).1,(hge y hy).2.2⟩⟩⟩⟩
def badI (l:List GLine):Option Nat:=(List.range (endI l)).find? fun i=>decide (g2c l i≠0)
noncomputable def asmV (l:List GLine):GObj×Int×Int:=
 if (symT l).2.1≠0 then (zObj,(symT l).2.1,(symT l).2.2) else match badI l with
 | some i=>(zObj,g2c l i,i)
 | none=>if objE (asmO l)=true then (asmO l,0,-1) else (zObj,6,l.length)
theorem badI_at {l:List GLine} {i:Nat} (hi:i < endI l) (hc:∀ j,j < i→g2c l j=0) (hz:g2c l i≠0):badI l=some i:=by
 rw[badI,List.find?_range_eq_some]
 exact ⟨by simpa using hz,List.mem_range.2 hi,fun j hj=>by simpa using hc j hj⟩
theorem badI_no {l:List GLine} (hc:∀ j,j < endI l→g2c l j=0):badI l=none:=by
 rw[badI,List.find?_eq_none]
 intro j hj
 simpa using hc j (List.mem_range.1 hj)
theorem badI_none {l:List GLine} (h:badI l=none):∀ j,j < endI l→g2c l j=0:=fun j hj=>by
 rw[badI,List.find?_eq_none] at h
 simpa using h j (List.mem_range.2 hj)
theorem symT_goes {l:List GLine} (fl:∀ x∈l,∀ e∈x.l,FO e) (h:(symT l).2.1=0):Goes l∧(symT l).1=tbOf (finP l):=by
 rcases hf:failI l with _ | i
 ·refine ⟨⟨fl,fun j hj=>?_⟩,by rw[symT,hf];rfl⟩
  cases j with
  | zero=>rfl
  | succ j=>
   rw[failI,List.find?_eq_none] at hf
   simpa using hf j (List.mem_range.2 (by omega))
 ·exfalso
  rw[symT,hf] at h
  rw[failI,List.find?_range_eq_some] at hf
  simp only[decide_eq_true_eq] at hf
  exact hf.1 h
theorem asmV_ok {l:List GLine} (fl:∀ x∈l,∀ e∈x.l,FO e) (hl:l.length≤100000) (hs:∀ x∈l,sz63 x.s∧∀ e∈x.l,sz63 e.s):objE (asmV l).1=true∧GObj.fit (asmV l).1∧GObj.ok (asmV l).1:=by
 rw[asmV]
 split
 ·exact zObj_ok
 ·rename_i h
  obtain ⟨g,_⟩:=symT_goes fl (Decidable.not_not.1 h)
  split
  ·exact zObj_ok
  ·rename_i hb
   split
   ·rename_i ho
    exact ⟨ho,asmO_ok g (badI_none hb) hl hs⟩
   ·exact zObj_ok
theorem secRs_ro (l:List GSect):toRoRows (secRs l)=GSect.ros l:=by
 refine toRo_map l fun x _=>?_
 simp only[secR,toRoL,toRo,GExpr.ror,GSect.ro]
theorem glob_cat (a:List GGlob) (x:GGlob):GGlob.ros a++[GGlob.ro x]=GGlob.ros (a++[x]):=by
 show a.map GGlob.ro++[x].map GGlob.ro=(a++[x]).map GGlob.ro
 rw[List.map_append]
theorem spec_Assemble (l:List GLine) (hl:l.length≤100000) (hf:∀ x∈l,GLine.fit x∧GLine.ok x):Con 186 [.ro 17 (GLine.ros l)] (.tup [.agg (GObj.ro (asmV l).1),.int .i64 (asmV l).2.1,.int .i64 (asmV l).2.2]) [none]:=by
 have fl:∀ x∈l,∀ e∈x.l,FO e:=fun x hx e he=>⟨(GLine.fit_un (hf x hx).1).2.2.2 e he,(GLine.ok_un (hf x hx).2).2.2.2.2.2.2.2 e he⟩
 have hs:∀ x∈l,sz63 x.s∧∀ e∈x.l,sz63 e.s:=fun x hx=>⟨(GLine.ok_un (hf x hx).2).2.1,fun e he=>(GExpr.ok_un (fl x hx e he).2).2.2.1⟩
 have hlen:(GLine.ros l).length=l.length:=line_len l
 have hle:=endI_le l
 have cS:=spec_Symbols l hl hf
 refine conI [] (fun i=>bif Nat.beq i 4 then some (5,262) else none) (fun i=>Nat.beq i 11) Tryz.func186 (fun _ h=>by cases h) ?_
 by_cases h0:(symT l).2.1=0
 case neg=>
  have e9:asmV l=(zObj,(symT l).2.1,(symT l).2.2):=if_pos h0
  rw[e9]
  apply join (R:=True)
  ·intro _
   refine ⟨[.ro],.tup [.agg (tbR (symT l).1),.int .i64 (symT l).2.1,.int .i64 (symT l).2.2],[none],cS,trivial,fun h=>?_,fun h=>absurd h0 (of_decide_eq_false h)⟩
   exact ⟨.tup (.cons (.agg (.cons (.nilr 3) (.cons (.nilr 5) (.refl _)))) (.refl _)),trivial⟩
  ·trivial
 obtain ⟨g,eT⟩:=symT_goes fl h0
 have e9:asmV l=(match badI l with | some i=>(zObj,g2c l i,i) | none=>if objE (asmO l)=true then (asmO l,0,-1) else (zObj,6,l.length)):=if_neg (fun q=>q h0)
 have hF:=g.okq (Nat.le_refl (endI l))
 have hN:=pass_nm hs (endI l)
 have h8:(finP l).sects.length≤8:=hF.ok.few
 have hnsy:(finP l).syms.length≤endI l:=hF.ok.nsym
 have hngl:(finP l).globs.length≤6*endI l:=hF.ok.nglob
 have ht:TAok (finT l):=⟨by show (finP l).syms.length≤_;omega,by show (finP l).globs.length≤_;omega,fun x hx=>okx_fo (hF.ok.syms x hx),fun s hs=>hN.globs s hs⟩
 have hfl:(secRs (fillS (finP l).sects (finP l).ats (finP l).sects.length)).length=(finP l).sects.length:=by rw[secRs_len,fillS_len]
 have hbd:((secRs (fillS (finP l).sects (finP l).ats (finP l).sects.length)).length:Int)*8≤281474976710656:=by rw[hfl];omega
 apply join
 ·intro J
  refine ⟨[.ro],.tup [.agg (tbR (symT l).1),.int .i64 (symT l).2.1,.int .i64 (symT l).2.2],[none],cS,trivial,fun h=>absurd h0 (of_decide_eq_true h),fun h=>?_⟩
  rw[eT]
  refine ⟨rfl,Int.natCast_nonneg _,hbd,by kernel_rfl,?_⟩
  refine ⟨{i:Nat // i≤endI l∧∀ j,j < i→g2c l j=0},fun i=>⟨[(0,.ro 17 (GLine.ros l)),(2,.ptr 0 0 0),(5,.ptr 1 0 0),(8,.ptr 2 0 0),(9,.int .i64 i.1)],[(0,.box GObj.zero []),(2,.box (goR (finT l) (g2 l i.1).sects (g2 l i.1).ats (g2 l i.1).sect) []),(1,.box (taR (finT l)) [])]⟩,fun i=>endI l - i.1,⟨0,Nat.zero_le _,fun j hj=>absurd hj (Nat.not_lt_zero _)⟩,?_,?_⟩
  ·refine ⟨rfl,rfl,rfl,rfl,rfl,rfl,rfl,rfl,.refl _,?_,?_,trivial⟩
   ·have e0:List.replicate ((secRs (fillS (finP l).sects (finP l).ats (finP l).sects.length)).length:Int).toNat [AV.int .i64 0]=GInt.ows (List.replicate (finP l).sects.length 0):=by
     rw[hfl,Int.toNat_natCast,GInt.ows_eq,List.map_replicate];rfl
    exact .of_eq (congrArg (fun z=>[[AV.ro 5 (symRs (finT l).syms),AV.ow 3 (secRs (g2 l 0).sects),AV.ro 1 (GString.ros (finT l).globs),AV.ow 1 z,AV.int .i64 0]]) e0)
   ·exact .refl _
  ·rintro ⟨i,hi,hc⟩
   dsimp only
   refine ⟨fun h=>?xa,fun h=>?xb⟩
   case xb=>
    refine ⟨{u:Unit // ∀ j,j < endI l→g2c l j=0},fun _=>⟨[(0,.ro 17 (GLine.ros l)),(2,.ptr 0 0 0),(5,.ptr 1 0 0),(8,.ptr 2 0 0)],[(0,.box GObj.zero []),(2,.box (goR (finT l) (g2 l (endI l)).sects (g2 l (endI l)).ats (g2 l (endI l)).sect) []),(1,.box (taR (finT l)) [])]⟩,⟨(),?_⟩,⟨rfl,rfl,rfl,rfl,rfl,rfl,rfl,.refl _,?_,.refl _,trivial⟩,J⟩
    ·have h:=of_decide_eq_false h
     rw[hlen] at h
     have e:i=endI l:=by omega
     rw[←e];exact hc
    ·have h:=of_decide_eq_false h
     rw[hlen] at h
     have e:i=endI l:=by omega
     rw[e];exact .refl _
   have h:=of_decide_eq_true h
   rw[hlen] at h
   have hi2:i < l.length:=by omega
   have hrow:(GLine.ros l)[i]?=some (GLine.ro l[i]):=map_get _ _ hi2
   have e1:IntKind.wrap .i64 ((i:Int)+1)=((i+1:Nat):Int):=w64 (by omega) (by omega)
   have hG:=g2_ok g i hi hc
   obtain ⟨hcur,hcg⟩:=hG.cur g hi
   have ha:=(g.okq hi).ok.ats _ (List.mem_of_getElem? (curA_get (g.okq hi).ok))
   refine ⟨Int.natCast_nonneg _,_,hrow,fun h8=>?_,fun h8=>?_⟩
   ·have h8:=of_decide_eq_true h8
    have hie:=endI_lt hi hi2 h8
    have hk:=hG.here g hi
    have cG:=spec_l16Go (finT l) ht (g2 l i) (by rw[hG.len];omega) (by rw[hG.alen,hG.len]) hk (curA (passP l i)) hcur (by omega) (by omega) l[i] (hf _ (List.getElem_mem hi2)).1 (hf _ (List.getElem_mem hi2)).2 (fun _=>hG.room g hie hk (finT l))
    rw[←hcg,g2_step hi2] at cG
    refine ⟨Int.natCast_nonneg _,_,hrow,?_⟩
    refine ⟨[.mut,.ro],.int .i64 (g2c l i),[some (.pb (goR (finT l) (g2 l (i+1)).sects (g2 l (i+1)).ats (g2 l (i+1)).sect)),none],cG,trivial,fun hz=>?_,fun hz=>?_⟩
    ·rw[e9,badI_at hie hc (of_decide_eq_true hz)]
     exact ⟨.tup (.cons (.agg (.cons (.nilr 3) (.cons (.nilr 5) (.refl _)))) (.refl _)),trivial⟩
    ·have hz:=Decidable.not_not.1 (of_decide_eq_false hz)
     refine ⟨⟨i+1,hie,fun j hj=>?_⟩,Nat.sub_succ_lt_self _ _ hie,rfl,rfl,rfl,rfl,rfl,rfl,rfl,congrArg (AV.int .i64) e1,.refl _,.refl _,.refl _,trivial⟩
     rcases Nat.lt_succ_iff_lt_or_eq.1 hj with q | q
     ·exact hc j q
     ·rw[q];exact hz
   ·have h8:l[i].k=8:=by simpa using h8
    have e:=endI_eq hi hi2 h8
    refine ⟨{u:Unit // ∀ j,j < endI l→g2c l j=0},fun _=>⟨[(0,.ro 17 (GLine.ros l)),(2,.ptr 0 0 0),(5,.ptr 1 0 0),(8,.ptr 2 0 0)],[(0,.box GObj.zero []),(2,.box (goR (finT l) (g2 l (endI l)).sects (g2 l (endI l)).ats (g2 l (endI l)).sect) []),(1,.box (taR (finT l)) [])]⟩,⟨(),?_⟩,⟨rfl,rfl,rfl,rfl,rfl,rfl,rfl,.refl _,?_,.refl _,trivial⟩,J⟩
    ·rw[←e];exact hc
    ·rw[e];exact .refl _
 ·rintro ⟨_,hc⟩
  dsimp only
  have e9:asmV l=if objE (asmO l)=true then (asmO l,(0:Int),(-1:Int)) else (zObj,(6:Int),(l.length:Int)):=by rw[e9,badI_no hc]
  rw[e9]
  have hfo:=asmO_ok g hc hl hs
  have cO:=spec_ObjOk (asmO l) hfo.1 hfo.2
  have hgl:(GString.ros (finP l).globs).length=(finP l).globs.length:=by simp
  refine ⟨{i:Nat // i≤(finP l).globs.length},fun i=>⟨[(0,.ro 17 (GLine.ros l)),(2,.ptr 0 0 0),(5,.ptr 1 0 0),(11,.ptr 2 0 0),(12,.int .i64 i.1)],[(0,.box GObj.zero []),(2,.box [.ow 3 (secRs (g2 l (endI l)).sects),.ow 5 (GGlob.ros (gsV (finP l).syms ((finP l).globs.take i.1)))] []),(1,.box (taR (finT l)) [])]⟩,fun i=>(finP l).globs.length - i.1,⟨0,Nat.zero_le _⟩,?_,?_⟩
  ·exact ⟨rfl,rfl,rfl,rfl,rfl,rfl,rfl,rfl,.refl _,.cons (.cons (.refl _) (.cons (.nil 5) (.refl _))) (.refl _),.refl _,trivial⟩
  ·rintro ⟨i,hi⟩
   dsimp only
   have e1:IntKind.wrap .i64 ((i:Int)+1)=((i+1:Nat):Int):=w64 (by omega) (by omega)
   refine ⟨fun h=>?_,fun h=>?_⟩
   ·have h:=of_decide_eq_true h
    have h:(i:Int) < ((GString.ros (finP l).globs).length:Int):=h
    rw[hgl] at h
    have hi:i < (finP l).globs.length:=by omega
    have hrow:(GString.ros (finP l).globs)[i]?=some [AV.str (finP l).globs[i]]:=map_get _ _ hi
    have cA:=Contract.le (.cons (.agg (.cons (.refl _) (.cons (.refl _) (.cons (.anyr 1 (GString.ros (finP l).globs)) (.refl _))))) (.refl _)) (spec_l15Sym (finP l).syms (finP l).globs[i] (by omega))
    have hgt:=gsV_take (syms:=(finP l).syms) hi
    refine ⟨Int.natCast_nonneg _,_,hrow,?_⟩
    refine ⟨[.ro,.ro],.int .i64 (symAt (finP l).syms (finP l).globs[i]),[none,none],cA,trivial,by kernel_rfl,fun h2=>?_,fun h2=>?_⟩
    ·have h2:=of_decide_eq_true h2
     have hlt:=symAt_lt h2
     have hrow2:(symRs (finP l).syms)[(symAt (finP l).syms (finP l).globs[i]).toNat]?=some (symR (finP l).syms[(symAt (finP l).syms (finP l).globs[i]).toNat]):=map_get _ _ hlt
     have hF:gsF (finP l).syms (finP l).globs[i]=[⟨(finP l).globs[i],(finP l).syms[(symAt (finP l).syms (finP l).globs[i]).toNat].e⟩]:=by
      rw[gsF,if_pos h2,List.getElem?_eq_getElem hlt]
     have hgV:=gsV_len (finP l).syms ((finP l).globs.take i)
     rw[List.length_take] at hgV
     rw[hF] at hgt
     refine ⟨Int.natCast_nonneg _,_,hrow,h2,_,hrow2,trivial,(by show ((GGlob.ros (gsV (finP l).syms ((finP l).globs.take i))).length+1)*72≤_;rw[List.length_map];omega),⟨⟨trivial,trivial,trivial,trivial,trivial,trivial⟩,trivial⟩,by kernel_rfl,?_⟩
     refine ⟨⟨i+1,hi⟩,Nat.sub_succ_lt_self _ _ hi,rfl,rfl,rfl,rfl,rfl,rfl,rfl,congrArg (AV.int .i64) e1,.refl _,.of_eq ?_,.refl _,trivial⟩
     dsimp only
     rw[hgt]
     exact congrArg (fun z=>[[AV.ow 3 (secRs (g2 l (endI l)).sects),AV.ow 5 z]]) (glob_cat _ ⟨(finP l).globs[i],(finP l).syms[(symAt (finP l).syms (finP l).globs[i]).toNat].e⟩)
    ·have h2:=of_decide_eq_false h2
     have hF:gsF (finP l).syms (finP l).globs[i]=[]:=by rw[gsF,if_neg h2]
     rw[hF,List.append_nil] at hgt
     refine ⟨⟨i+1,hi⟩,Nat.sub_succ_lt_self _ _ hi,rfl,rfl,rfl,rfl,rfl,rfl,rfl,congrArg (AV.int .i64) e1,.refl _,?_,.refl _,trivial⟩
     dsimp only
     rw[hgt];exact .refl _
   ·have h:=of_decide_eq_false h
    have h:¬ (i:Int) < ((GString.ros (finP l).globs).length:Int):=h
    rw[hgl] at h
    rw[List.take_of_length_le (by omega)]
    have eO:gsV (finP l).syms (finP l).globs=(asmO l).globs:=rfl
    have eS:(g2 l (endI l)).sects=(asmO l).sects:=rfl
    rw[eO,eS]
    refine ⟨[.ro],.bool (objE (asmO l)),[none],by rw[secRs_ro,GGlob.ror];exact cO,⟨trivial,trivial⟩,fun h2=>?_,fun h2=>?_⟩<;>simp only[Bool.not_eq_true',Bool.not_eq_false'] at h2
    ·rw[if_neg (by rw[h2];decide)]
     exact ⟨.tup (.cons (.agg (.cons (.nilr 3) (.cons (.nilr 5) (.refl _)))) (.cons (.refl _) (.cons (.of_eq (congrArg (AV.int .i64) (congrArg Nat.cast hlen))) (.refl _)))),trivial⟩
    ·rw[if_pos h2]
     exact ⟨.tup (.cons (.agg (.cons (.trans (.frz _) (.of_eq (congrArg (AV.ro 3) (secRs_ro _)))) (.cons (.trans (.frz _) (.of_eq (congrArg (AV.ro 5) (GGlob.ror _)))) (.refl _)))) (.refl _)),trivial⟩
end Go.Proofs.VI
