/- Contracts of functions, and what they rest on: l16cp l16d l16any. -/
import Derived.Test.YtjlonhiojgljcaaGreatS13
import Derived.Test.YtjlonhiojgljcaaGreatX1
set_option linter.unusedVariables false
set_option linter.unusedSimpArgs false
set_option maxRecDepth 10000
set_option maxHeartbeats 4000000
namespace Go.Proofs.VI
open Go
theorem secRow_snoc (l:List GSect) (s:GSect) (x:AV):(secRs l++[[AV.str s.name,AV.bool s.over,x]]).modify ((secRs l).length+0) (fun row=>row.set 2 (.ow 4 (GExpr.ros s.words)))=secRs (l++[s]):=by
 rw[modify_end]
 show _=(l++[s]).map secR
 rw[List.map_append];rfl
theorem tk_snoc {α:Type} (l:List α) (i:Nat) (h:i < l.length):l.take i++[l[i]]=l.take (i+1):=by
 rw[List.take_add_one,List.getElem?_eq_getElem h];rfl
def obR (o:GObj):List AV:=[.ow 3 (secRs o.sects),.ow 5 (GGlob.ros o.globs)]
theorem obR_ro (o:GObj):Sim (.agg (obR o)) (.agg (GObj.ro o)):=
 .agg (.cons (.trans (.frz _) (.of_eq (congrArg (AV.ro 3) (secRs_ro _)))) (.cons (.trans (.frz _) (.of_eq (congrArg (AV.ro 5) (GGlob.ror _)))) (.refl _)))
theorem spec_copyR (a:GExpr) (fa:GExpr.fit a):Con 184 [.agg (GExpr.ro a)] (.agg (GExpr.ro a)) [none]:=
 Contract.sim (fun o ho=>by simpa using ho) (simOwRo a) (spec_l11Copy a fa)
theorem spec_l16CopySects (l:List GSect) (hl:l.length≤1099511627) (fl:∀ s∈l,GSect.fit s) (hw:∀ s∈l,s.words.length≤1099511627):Con 183 [.ro 3 (GSect.ros l)] (.ow 3 (secRs l)) [none]:=by
 have lm:(GSect.ros l).length=l.length:=by simp
 refine con Tryz.func183 ?_
 refine ⟨{i:Nat // i≤l.length},fun i=>⟨[(0,.ro 3 (GSect.ros l)),(3,.own 0),(4,.int .i64 i.1)],[(0,.rows 3 (secRs (l.take i.1)) [])]⟩,fun i=>l.length - i.1,⟨0,Nat.zero_le _⟩,?_,?_⟩
 ·exact ⟨rfl,rfl,rfl,.refl _,trivial⟩
 ·rintro ⟨i,hi⟩
  dsimp only
  have e1:IntKind.wrap .i64 ((i:Int)+1)=((i+1:Nat):Int):=w64 (by omega) (by omega)
  refine ⟨fun h=>?_,fun h=>?_⟩
  ·have h:=of_decide_eq_true h
   rw[lm] at h
   have hi:i < l.length:=by omega
   have hrow:(GSect.ros l)[i]?=some (GSect.ro l[i]):=map_get _ _ hi
   have hw:=hw _ (List.getElem_mem hi)
   have fs:=fl _ (List.getElem_mem hi)
   have lw:=ros_len l[i].words
   have hls:(secRs (l.take i)).length=i:=by rw[secRs_len,List.length_take];omega
   refine ⟨Int.natCast_nonneg _,_,hrow,Int.natCast_nonneg _,_,hrow,by kernel_rfl,?_⟩
   refine ⟨{j:Nat // j≤l[i].words.length},fun j=>⟨[(0,.ro 3 (GSect.ros l)),(3,.own 0),(4,.int .i64 i),(5,.ptr 1 0 0),(6,.int .i64 j.1)],[(0,.rows 3 (secRs (l.take i)) []),(1,.box [.str l[i].name,.bool l[i].over,.ow 4 (GExpr.ros (l[i].words.take j.1))] [])]⟩,fun j=>l[i].words.length - j.1,⟨0,Nat.zero_le _⟩,?_,?_⟩
   ·exact ⟨rfl,rfl,rfl,rfl,rfl,rfl,.refl _,.cons (.cons (.refl _) (.cons (.refl _) (.cons (.nil 4) (.refl _)))) (.refl _),trivial⟩
   ·rintro ⟨j,hj⟩
    dsimp only
    have e2:IntKind.wrap .i64 ((j:Int)+1)=((j+1:Nat):Int):=w64 (by omega) (by omega)
    refine ⟨Int.natCast_nonneg _,_,hrow,fun h=>?_,fun h=>?_⟩
    ·have h:=of_decide_eq_true h
     have h:(j:Int) < ((GExpr.ros l[i].words).length:Int):=h
     rw[lw] at h
     have hj:j < l[i].words.length:=by omega
     have lt:=ros_len (l[i].words.take j)
     have cC:=spec_copyR l[i].words[j] (fs.2 _ (List.getElem_mem hj))
     refine ⟨Int.natCast_nonneg _,_,hrow,Int.natCast_nonneg _,_,ros_get _ _ hj,?_⟩
     refine ⟨[.ro],.agg (GExpr.ro l[i].words[j]),[none],cC,trivial,?_⟩
     refine ⟨trivial,(by show ((GExpr.ros (l[i].words.take j)).length+1)*56≤_;rw[lt,List.length_take];omega),⟨⟨trivial,trivial,trivial,trivial,trivial⟩,trivial⟩,?_⟩
     refine ⟨⟨j+1,hj⟩,Nat.sub_succ_lt_self _ _ hj,rfl,rfl,rfl,rfl,congrArg (AV.int .i64) e2,rfl,.refl _,.of_eq ?_,trivial⟩
     dsimp only
     rw[←tk_snoc _ _ hj]
     exact congrArg (fun z=>[[AV.str l[i].name,AV.bool l[i].over,AV.ow 4 z]]) (row_cat _ _)
    ·have h:=of_decide_eq_false h
     have h:¬ (j:Int) < ((GExpr.ros l[i].words).length:Int):=h
     rw[lw] at h
     have eW:l[i].words.take j=l[i].words:=List.take_of_length_le (by omega)
     refine ⟨trivial,(by show ((secRs (l.take i)).length+1)*48≤_;rw[hls];omega),⟨⟨trivial,trivial,trivial,trivial⟩,trivial⟩,?_⟩
     refine ⟨⟨i+1,hi⟩,Nat.sub_succ_lt_self _ _ hi,rfl,congrArg (AV.int .i64) e1,rfl,.of_eq ?_,trivial⟩
     dsimp only
     rw[eW,←tk_snoc _ _ hi]
     exact secRow_snoc _ l[i] _
  ·have h:=of_decide_eq_false h
   rw[lm] at h
   rw[List.take_of_length_le (by omega)]
   exact ⟨.refl _,trivial⟩
theorem spec_l16Copy (o:GObj) (fo:GObj.fit o) (hs:o.sects.length≤1099511627) (hg:o.globs.length≤1099511627) (hw:∀ s∈o.sects,s.words.length≤1099511627):Con 120 [.agg (GObj.ro o)] (.agg (obR o)) [none]:=by
 have cS:=spec_l16CopySects o.sects hs fo.1.2 hw
 have lm:(GGlob.ros o.globs).length=o.globs.length:=by simp
 refine conI [] (fun i=>bif Nat.beq i 5 then some (3,64) else none) (fun _=>false) Tryz.func120 (fun _ h=>by cases h) ?_
 refine ⟨[.ro],.ow 3 (secRs o.sects),[none],cS,trivial,?_⟩
 refine ⟨{i:Nat // i≤o.globs.length},fun i=>⟨[(1,.ptr 0 0 0),(2,.ptr 1 0 0),(3,.ptr 2 0 0),(4,.int .i64 i.1)],[(0,.box (GObj.ro o) []),(1,.box GObj.zero []),(2,.box [.ow 3 (secRs o.sects),.ow 5 (GGlob.ros (o.globs.take i.1))] [])]⟩,fun i=>o.globs.length - i.1,⟨0,Nat.zero_le _⟩,?_,?_⟩
 ·exact ⟨rfl,rfl,rfl,rfl,rfl,rfl,rfl,.refl _,.refl _,.cons (.cons (.refl _) (.cons (.nil 5) (.refl _))) (.refl _),trivial⟩
 ·rintro ⟨i,hi⟩
  dsimp only
  have e1:IntKind.wrap .i64 ((i:Int)+1)=((i+1:Nat):Int):=w64 (by omega) (by omega)
  refine ⟨fun h=>?_,fun h=>?_⟩
  ·have h:=of_decide_eq_true h
   have h:(i:Int) < ((GGlob.ros o.globs).length:Int):=h
   rw[lm] at h
   have hi:i < o.globs.length:=by omega
   have hrow:(GGlob.ros o.globs)[i]?=some (GGlob.ro o.globs[i]):=map_get _ _ hi
   have cC:=spec_copyR o.globs[i].e (fo.2.2 _ (List.getElem_mem hi))
   refine ⟨Int.natCast_nonneg _,_,hrow,Int.natCast_nonneg _,_,hrow,?_⟩
   refine ⟨[.ro],.agg (GExpr.ro o.globs[i].e),[none],cC,trivial,?_⟩
   refine ⟨trivial,(by show ((GGlob.ros (o.globs.take i)).length+1)*72≤_;rw[List.length_map,List.length_take];omega),⟨⟨trivial,trivial,trivial,trivial,trivial,trivial⟩,trivial⟩,by kernel_rfl,?_⟩
   refine ⟨⟨i+1,hi⟩,Nat.sub_succ_lt_self _ _ hi,rfl,rfl,rfl,rfl,rfl,rfl,congrArg (AV.int .i64) e1,.refl _,.refl _,.of_eq ?_,trivial⟩
   dsimp only
   rw[←tk_snoc _ _ hi]
   exact congrArg (fun z=>[[AV.ow 3 (secRs o.sects),AV.ow 5 z]]) (glob_cat _ o.globs[i])
  ·have h:=of_decide_eq_false h
   have h:¬ (i:Int) < ((GGlob.ros o.globs).length:Int):=h
   rw[lm] at h
   rw[List.take_of_length_le (by omega)]
   exact ⟨.refl _,trivial⟩
abbrev DS:=(GObj×Int)×Nat×Int
def goodO (o:GObj):Prop:=objE o=true∧GObj.fit o∧GObj.ok o
theorem lg_fo {l:List GLine} (h:∀ x∈l,LG x):(∀ x∈l,∀ e∈x.l,FO e)∧∀ x∈l,sz63 x.s∧∀ e∈x.l,sz63 e.s:=by
 have fl:∀ x∈l,∀ e∈x.l,FO e:=fun x hx e he=>⟨(GLine.fit_un (h x hx).1).2.2.2 e he,(GLine.ok_un (h x hx).2).2.2.2.2.2.2.2 e he⟩
 exact ⟨fl,fun x hx=>⟨(GLine.ok_un (h x hx).2).2.1,fun e he=>(GExpr.ok_un (fl x hx e he).2).2.2.1⟩⟩
theorem asm_good {l:List GLine} (hl:l.length≤100) (h:∀ x∈l,LG x):goodO (asmV l).1:=asmV_ok (lg_fo h).1 (by omega) (lg_fo h).2
def DLine (b:List UInt8) (s:Nat×Int) (l:List GLine) (s':Nat×Int):Prop:=(l.length≤100∧∀ x∈l,LG x)∧s'.1≤b.length∧Con 187 [.pb (cRow b s.1 s.2)] (.ro 17 (GLine.ros l)) [some (.pb (cRow b s'.1 s'.2))]
def DFin (b:List UInt8) (t:DS):Nat→Nat→DS→Prop
 | 0,i,s=>(5≤i∨s.1.2=0)∧s=t
 | k+1,i,s=>i < 5∧s.1.2≠0∧∃ l s',DLine b s.2 l s'∧DFin b t k (i+1) (((asmV l).1,(asmV l).2.1),s')
theorem DFin.ex (b:List UInt8) (hb:b.length≤1099511627776):∀ (n i:Nat) (s:DS),i+n=5→goodO s.1.1→s.2.1≤b.length→∃ k t,DFin b t k i s∧goodO t.1.1∧t.2.1≤b.length
 | 0,i,s,h,g,hj=>⟨0,s,⟨.inl (by omega),rfl⟩,g,hj⟩
 | n+1,i,s,h,g,hj=>by
  by_cases hc:s.1.2=0
  ·exact ⟨0,s,⟨.inr hc,rfl⟩,g,hj⟩
  ·obtain ⟨l,j',h',hl,hj',c⟩:=spec_l15Lines b hb s.2.1 s.2.2 hj
   obtain ⟨k,t,ht,gt,tj⟩:=DFin.ex b hb n (i+1) (((asmV l).1,(asmV l).2.1),j',h') (by omega) (asm_good hl.1 hl.2) hj'
   exact ⟨k+1,t,⟨by omega,hc,l,(j',h'),⟨hl,hj',c⟩,ht⟩,gt,tj⟩
theorem spec_l16Draw (b:List UInt8) (hb:b.length≤1099511627776) (i:Nat) (h:Int) (hi:i≤b.length):∃ (o:GObj) (j:Nat) (h':Int),goodO o∧j≤b.length∧Con 126 [.pb (cRow b i h)] (.agg (GObj.ro o)) [some (.pb (cRow b j h'))]:=by
 obtain ⟨l,j1,h1,hl,hj1,c1⟩:=spec_l15Lines b hb i h hi
 have cA:=spec_Assemble l (by omega) hl.2
 obtain ⟨k,⟨⟨o,cd⟩,j2,h2⟩,hf,g,hj2⟩:=DFin.ex b hb 5 0 (((asmV l).1,(asmV l).2.1),j1,h1) rfl (asm_good hl.1 hl.2) hj1
 dsimp only at g hj2
 refine ⟨o,j2,h2,g,hj2,?_⟩
 refine con Tryz.func126 ?_
 refine ⟨[.mut],.ro 17 (GLine.ros l),[_],c1,trivial,?_⟩
 refine ⟨[.ro],.tup [.agg (GObj.ro (asmV l).1),.int .i64 (asmV l).2.1,.int .i64 (asmV l).2.2],[none],cA,trivial,?_⟩
 refine ⟨{p:Nat×Nat×DS // p.2.1≤5∧DFin b ((o,cd),j2,h2) p.1 p.2.1 p.2.2},fun p=>⟨[(0,.ptr 0 0 0),(2,.ptr 1 0 0),(3,.ptr 2 0 0),(4,.int .i64 p.1.2.2.1.2),(6,.int .i64 p.1.2.1)],[(0,.box (cRow b p.1.2.2.2.1 p.1.2.2.2.2) []),(1,.box GObj.zero []),(2,.box (GObj.ro p.1.2.2.1.1) [])]⟩,fun p=>p.1.1,⟨(k,0,(((asmV l).1,(asmV l).2.1),j1,h1)),Nat.zero_le _,hf⟩,?_,?_⟩
 ·exact ⟨rfl,rfl,rfl,rfl,rfl,rfl,rfl,rfl,.refl _,.refl _,.refl _,trivial⟩
 ·rintro ⟨⟨k,i,⟨o',cd'⟩,j,hh⟩,h5,hf⟩
  dsimp only at h5 hf⊢
  have e1:IntKind.wrap .i64 ((i:Int)+1)=((i+1:Nat):Int):=w64 (by omega) (by omega)
  cases k with
  | zero=>
   obtain ⟨hc,he⟩:=hf
   injection he with he e2
   injection he with e3 e4
   injection e2 with e5 e6
   subst e3;subst e4;subst e5;subst e6
   dsimp only at hc
   refine ⟨fun h=>⟨fun q=>?_,fun q=>?_⟩,fun h=>?_⟩
   ·exact absurd (of_decide_eq_true q) (fun q=>hc.elim (fun g=>by have:=of_decide_eq_true h;omega) q)
   ·exact ⟨.refl _,.refl _,trivial⟩
   ·exact ⟨.refl _,.refl _,trivial⟩
  | succ k=>
   obtain ⟨hi5,hcd,l',s',⟨hl',hj',c'⟩,hf'⟩:=hf
   dsimp only at hcd c'
   have cA':=spec_Assemble l' (by omega) hl'.2
   refine ⟨fun h=>⟨fun q=>?_,fun q=>absurd (Decidable.not_not.1 (of_decide_eq_false q)) hcd⟩,fun h=>absurd (of_decide_eq_false h) (by omega)⟩
   refine ⟨[.mut],.ro 17 (GLine.ros l'),[some (.pb (cRow b s'.1 s'.2))],c',trivial,?_⟩
   refine ⟨[.ro],.tup [.agg (GObj.ro (asmV l').1),.int .i64 (asmV l').2.1,.int .i64 (asmV l').2.2],[none],cA',trivial,?_⟩
   exact ⟨⟨(k,i+1,((asmV l').1,(asmV l').2.1),s'),hi5,hf'⟩,Nat.lt_succ_self _,rfl,rfl,rfl,rfl,rfl,rfl,rfl,congrArg (AV.int .i64) e1,.refl _,.refl _,.refl _,trivial⟩
def secOk (s:GSect):Prop:=sz63 s.name∧s.words.length≤600∧∀ w∈s.words,FO w
structure AnyO (o:GObj):Prop where
 nsect:o.sects.length≤100
 nglob:o.globs.length≤100
 sects:∀ s∈o.sects,secOk s
 globs:∀ g∈o.globs,sz63 g.name∧FO g.e
theorem AnyO.fit {o:GObj} (h:AnyO o):GObj.fit o:=by
 have h1:=h.nsect
 have h2:=h.nglob
 exact ⟨⟨by omega,fun s hs=>⟨by have:=(h.sects s hs).2.1;omega,fun w hw=>((h.sects s hs).2.2 w hw).1⟩⟩,⟨by omega,fun g hg=>(h.globs g hg).2.1⟩⟩
theorem AnyO.ok {o:GObj} (h:AnyO o):GObj.ok o:=by
 have h1:=h.nsect
 have h2:=h.nglob
 exact ⟨⟨by omega,fun s hs=>⟨(h.sects s hs).1,trivial,by have:=(h.sects s hs).2.1;omega,fun w hw=>((h.sects s hs).2.2 w hw).2⟩⟩,⟨by omega,fun g hg=>⟨(h.globs g hg).1,(h.globs g hg).2.2⟩⟩⟩
theorem obR_mk (X:List GSect) (Y:List GGlob):Sim (.agg [.ow 3 (secRs X),.ow 5 (GGlob.ros Y)]) (.agg (GObj.ro ⟨X,Y⟩)):=obR_ro ⟨X,Y⟩
theorem objP_of {o:GObj} (h:objE o=true):objP o:=by
 by_cases g:objP o
 ·exact g
 ·have:objE o=false:=dec_false g
  rw[this] at h;cases h
theorem goodO_words {o:GObj} (g:goodO o):o.sects.length≤8∧o.globs.length≤20∧∀ s∈o.sects,s.words.length≤256:=by
 have hP:=objP_of g.1
 refine ⟨by have:=hP.1.1;omega,by have:=hP.1.2;omega,fun s hs=>?_⟩
 obtain ⟨i,hi,rfl⟩:=List.mem_iff_getElem.1 hs
 have:=(hP.2.1 i hi hi).2.1
 omega
theorem goodO_any {o:GObj} (g:goodO o):AnyO o:=by
 obtain ⟨h1,h2,h3⟩:=goodO_words g
 exact ⟨by omega,by omega,fun s hs=>⟨(g.2.2.1.2 s hs).1,by have:=h3 s hs;omega,fun w hw=>⟨(g.2.1.1.2 s hs).2 w hw,(g.2.2.1.2 s hs).2.2.2 w hw⟩⟩,fun x hx=>⟨(g.2.2.2.2 x hx).1,g.2.1.2.2 x hx,(g.2.2.2.2 x hx).2⟩⟩
theorem any_mod {o:GObj} (h:AnyO o) {k:Nat} {f:GSect→GSect} (hf:∀ s,o.sects[k]?=some s→secOk (f s)):AnyO ⟨o.sects.modify k f,o.globs⟩:=by
 refine ⟨by show (o.sects.modify k f).length≤_;rw[List.length_modify];exact h.nsect,h.nglob,fun s hs=>?_,h.globs⟩
 obtain ⟨j,hj,rfl⟩:=List.mem_iff_getElem.1 hs
 have hj2:j < o.sects.length:=by
  have hj:=hj
  show j < _
  rwa [show (GObj.mk (o.sects.modify k f) o.globs).sects=o.sects.modify k f from rfl,List.length_modify] at hj
 show secOk ((o.sects.modify k f)[j]'(by rw[List.length_modify];exact hj2))
 rw[List.getElem_modify]
 split
 ·rename_i e
  subst e
  exact hf _ (List.getElem?_eq_getElem hj2)
 ·exact h.sects _ (List.getElem_mem hj2)
theorem secRs_mod {l:List GSect} {k:Nat} {s:GSect} (h:l[k]?=some s) (f:GSect→GSect):secRs (l.modify k f)=(secRs l).set k (secR (f s)):=by
 refine List.ext_getElem? fun q=>?_
 rw[List.getElem?_map,List.getElem?_modify,List.getElem?_set]
 by_cases e:k=q
 ·subst e
  rw[if_pos rfl,h,if_pos (by rw[secRs_len];exact (List.getElem?_eq_some_iff.1 h).1)];simp
 ·rw[if_neg e,List.getElem?_map]
  cases l[q]?<;>simp[e]
theorem sec_new (l:List GSect) (s:ByteArray) (e:GExpr):SimRows ((secRs l++[[AV.str s,AV.ff,AV.nilp]]).modify ((secRs l).length+0) (fun row=>row.set 2 (.ow 4 [GExpr.ro e]))) (secRs (l++[⟨s,false,[e]⟩])):=by
 rw[modify_end]
 show SimRows (secRs l++[[.str s,.ff,.ow 4 [GExpr.ro e]]]) ((l++[(⟨s,false,[e]⟩:GSect)]).map secR)
 rw[List.map_append]
 exact (SimRows.refl _).append (.cons (.cons (.refl _) (.cons .ff (.cons (.of_eq (congrArg (AV.ow 4) (show [GExpr.ro e]=GExpr.ros [e] by rw[GExpr.ros_eq];rfl))) (.refl _)))) (.refl _))
abbrev WS:=Nat×Nat×Int
def WFin (b:List UInt8) (n0:Nat) (t:WS):Nat→WS→Prop
 | 0,s=>∃ (y:Int) (j':Nat) (h':Int),0≤y∧y < 2∧¬ ((n0+s.1:Nat):Int) < 256+y∧j'≤b.length∧Con 173 [.pb (cRow b s.2.1 s.2.2),.int .i64 2] (.int .i64 y) [some (.pb (cRow b j' h')),none]∧t=(s.1,j',h')
 | k+1,s=>∃ (y:Int) (j':Nat) (h':Int),0≤y∧y < 2∧((n0+s.1:Nat):Int) < 256+y∧j'≤b.length∧Con 173 [.pb (cRow b s.2.1 s.2.2),.int .i64 2] (.int .i64 y) [some (.pb (cRow b j' h')),none]∧WFin b n0 t k (s.1+1,j',h')
theorem WFin.ex (b:List UInt8) (hb:b.length≤1099511627776) (n0:Nat):∀ (f:Nat) (s:WS),s.1+f=300→s.2.1≤b.length→∃ k t,WFin b n0 t k s∧t.1≤300∧t.2.1≤b.length
 | 0,s,h,hj=>by
  obtain ⟨y,j',h',hy,hj',c⟩:=spec_l1Below b hb s.2.1 s.2.2 hj 2 (by decide)
  exact ⟨0,(s.1,j',h'),⟨y,j',h',hy.1,hy.2,by omega,hj',c,rfl⟩,by dsimp only;omega,hj'⟩
 | f+1,s,h,hj=>by
  obtain ⟨y,j',h',hy,hj',c⟩:=spec_l1Below b hb s.2.1 s.2.2 hj 2 (by decide)
  by_cases g:((n0+s.1:Nat):Int) < 256+y
  ·obtain ⟨k,t,ht,h1,h2⟩:=WFin.ex b hb n0 f (s.1+1,j',h') (by dsimp only;omega) hj'
   exact ⟨k+1,t,⟨y,j',h',hy.1,hy.2,g,hj',c,ht⟩,h1,h2⟩
  ·exact ⟨0,(s.1,j',h'),⟨y,j',h',hy.1,hy.2,g,hj',c,rfl⟩,by dsimp only;omega,hj'⟩
theorem spec_l16Any (b:List UInt8) (hb:b.length≤1099511627776) (i:Nat) (h:Int) (hi:i≤b.length):∃ (o:GObj) (j:Nat) (h':Int),AnyO o∧j≤b.length∧Con 118 [.pb (cRow b i h)] (.agg (GObj.ro o)) [some (.pb (cRow b j h'))]:=by
 obtain ⟨o,j1,h1,g,hj1,c1⟩:=spec_l16Draw b hb i h hi
 obtain ⟨g1,g2,g3⟩:=goodO_words g
 have ga:=goodO_any g
 have cC:=spec_l16Copy o g.2.1 (by omega) (by omega) (fun s hs=>by have:=g3 s hs;omega)
 obtain ⟨sects,globs⟩:=o
 dsimp only at g1 g2 g3
 have hls:=secRs_len sects
 by_cases hn:sects.length=0
 ·refine ⟨⟨sects,globs⟩,j1,h1,ga,hj1,?_⟩
  refine con Tryz.func118 ?_
  refine ⟨[.mut],.agg (GObj.ro ⟨sects,globs⟩),[_],c1,trivial,?_⟩
  refine ⟨[.ro],.agg (obR ⟨sects,globs⟩),[none],cC,trivial,fun h=>?_,fun h=>absurd (show ((secRs sects).length:Int)=0 by rw[hls,hn];rfl) (of_decide_eq_false h)⟩
  exact ⟨obR_ro _,.refl _,trivial⟩
 obtain ⟨k,j2,h2,hk,hj2,c2⟩:=spec_l1Below b hb j1 h1 hj1 (sects.length:Int) (by omega)
 obtain ⟨k,rfl⟩:∃ q:Nat,k=q:=⟨k.toNat,by omega⟩
 have hk2:k < sects.length:=by omega
 obtain ⟨⟨nm,ov,ws⟩,hsec⟩:∃ y,sects[k]?=some y:=⟨_,List.getElem?_eq_getElem hk2⟩
 have gs:secOk ⟨nm,ov,ws⟩:=ga.sects _ (List.mem_of_getElem? hsec)
 have hw0:ws.length≤256:=g3 _ (List.mem_of_getElem? hsec)
 have hr0:(secRs sects)[(k:Int).toNat]?=some [.str nm,.bool ov,.ow 4 (GExpr.ros ws)]:=by
  rw[Int.toNat_natCast,List.getElem?_map,hsec];rfl
 have hkl:(k:Int) < ((secRs sects).length:Int):=by rw[hls];omega
 have lw:=ros_len ws
 obtain ⟨z,j3,h3,hz,hj3,c3⟩:=spec_l1Below b hb j2 h2 hj2 12 (by decide)
 have hne:¬ ((secRs sects).length:Int)=0:=by rw[hls];omega
 by_cases z0:z=0
 ·subst z0
  obtain ⟨s,j4,h4,hs,hj4,c4⟩:=spec_l1Str b hb j3 h3 hj3 [⟨#[]⟩,⟨#[99,111,100,101]⟩,⟨#[109,111,118]⟩,⟨#[120]⟩] (by simp) (by simp)
  have hs:=str_small hs (by decide)
  refine ⟨⟨sects.modify k fun y=>{y with name:=s},globs⟩,j4,h4,any_mod ga fun y hy=>?_,hj4,?_⟩
  ·have hy:sects[k]?=some y:=hy
   rw[hsec] at hy;injection hy with hy;subst hy
   exact ⟨by show s.size≤_;omega,gs.2⟩
  ·refine conI [] (fun i=>bif Nat.beq i 7 then some (3,64) else none) (fun _=>false) Tryz.func118 (fun _ h=>by cases h) ?_
   refine ⟨[.mut],.agg (GObj.ro ⟨sects,globs⟩),[_],c1,trivial,?_⟩
   refine ⟨[.ro],.agg (obR ⟨sects,globs⟩),[none],cC,trivial,fun h=>absurd (of_decide_eq_true h) hne,fun _=>?_⟩
   refine ⟨[.mut,.ro],.int .i64 k,[_,none],by rw[hls];exact c2,trivial,?_⟩
   refine ⟨[.mut,.ro],.int .i64 0,[_,none],c3,trivial,?_⟩
   refine ⟨fun _=>?_,fun h=>absurd rfl (of_decide_eq_false h)⟩
   refine ⟨[.mut,.frz],.str s,[_,none],c4,trivial,Int.natCast_nonneg _,hkl,_,hr0,?_⟩
   refine ⟨by kernel_rfl,?_⟩
   refine ⟨.trans (.agg (.cons (.ow (.of_eq ?_)) (.refl _))) (obR_ro ⟨sects.modify k fun y=>{y with name:=s},globs⟩),.refl _,trivial⟩
   rw[secRs_mod hsec,Int.toNat_natCast]
   rfl
 by_cases z1:z=1
 ·subst z1
  obtain ⟨e,j4,h4,fe,hj4,c4⟩:=spec_l10Any b hb j3 h3 hj3
  refine ⟨⟨sects.modify k fun y=>{y with words:=y.words++[e]},globs⟩,j4,h4,any_mod ga fun y hy=>?_,hj4,?_⟩
  ·have hy:sects[k]?=some y:=hy
   rw[hsec] at hy;injection hy with hy;subst hy
   refine ⟨gs.1,by show (ws++[e]).length≤_;rw[List.length_append,List.length_singleton];omega,fun w hw=>?_⟩
   rcases List.mem_append.1 hw with q | q
   ·exact gs.2.2 w q
   ·rw[List.mem_singleton.1 q];exact fe
  ·have hbd:((GExpr.ros ws).length+1)*56≤140737488355328:=by rw[lw];omega
   have hfin (W:List (List AV)) (eW:W=GExpr.ros (ws++[e])):(((secRs sects).set (k:Int).toNat [.str nm,.bool ov,.nilp]).modify (k:Int).toNat fun row=>row.set (0+2) (.ow 4 W))=secRs (sects.modify k fun y=>{y with words:=y.words++[e]}):=by
    rw[secRs_mod hsec,Int.toNat_natCast,set_mod (by rw[hls];omega),eW];rfl
   refine conI [] (fun i=>bif Nat.beq i 10||Nat.beq i 12 then some (3,64) else none) (fun _=>false) Tryz.func118 (fun _ h=>by cases h) ?_
   refine ⟨[.mut],.agg (GObj.ro ⟨sects,globs⟩),[_],c1,trivial,?_⟩
   refine ⟨[.ro],.agg (obR ⟨sects,globs⟩),[none],cC,trivial,fun h=>absurd (of_decide_eq_true h) hne,fun _=>?_⟩
   refine ⟨[.mut,.ro],.int .i64 k,[_,none],by rw[hls];exact c2,trivial,?_⟩
   refine ⟨[.mut,.ro],.int .i64 1,[_,none],c3,trivial,?_⟩
   refine ⟨fun h=>absurd (of_decide_eq_true h) (by decide),fun _=>⟨fun _=>?_,fun h=>absurd rfl (of_decide_eq_false h)⟩⟩
   intro bb vv
   refine ⟨fun _=>?_,fun _=>?_⟩
   ·refine ⟨Int.natCast_nonneg _,hkl,_,hr0,?_⟩
    refine ⟨[.mut],.agg (GExpr.ro e),[_],c4,trivial,?_⟩
    refine ⟨trivial,hbd,⟨⟨trivial,trivial,trivial,trivial,trivial⟩,trivial⟩,Int.natCast_nonneg _,hkl,_,hr0,true,rfl,by kernel_rfl,?_⟩
    refine ⟨Int.natCast_nonneg _,by rw[List.length_append,List.length_singleton];omega,_,app_at _ _,?_⟩
    refine ⟨.trans (.agg (.cons (.ow (.of_eq (hfin _ ((app_set _ _ _).trans (row_cat _ _))))) (.refl _))) (obR_ro ⟨sects.modify k fun y=>{y with words:=y.words++[e]},globs⟩),.refl _,trivial⟩
   ·refine ⟨Int.natCast_nonneg _,hkl,_,hr0,?_⟩
    refine ⟨[.mut],.agg (GExpr.ro e),[_],c4,trivial,?_⟩
    refine ⟨trivial,hbd,⟨⟨trivial,trivial,trivial,trivial,trivial⟩,trivial⟩,Int.natCast_nonneg _,hkl,_,hr0,true,rfl,by kernel_rfl,?_⟩
    refine ⟨.trans (.agg (.cons (.ow (.of_eq (hfin _ (row_cat _ _)))) (.refl _))) (obR_ro ⟨sects.modify k fun y=>{y with words:=y.words++[e]},globs⟩),.refl _,trivial⟩
 by_cases z2:z=2
 ·subst z2
  obtain ⟨s,j4,h4,hs,hj4,c4⟩:=spec_l1Str b hb j3 h3 hj3 [⟨#[97]⟩,⟨#[122]⟩,⟨#[]⟩] (by simp) (by simp)
  have hs:=str_small hs (by decide)
  obtain ⟨e,j5,h5,fe,hj5,c5⟩:=spec_l11Flat b hb j4 h4 hj4 2 (by decide)
  refine ⟨⟨sects,globs++[⟨s,e⟩]⟩,j5,h5,⟨ga.nsect,by show (globs++[_]).length≤_;rw[List.length_append,List.length_singleton];omega,ga.sects,fun x hx=>?_⟩,hj5,?_⟩
  ·rcases List.mem_append.1 hx with q | q
   ·exact ga.globs x q
   ·rw[List.mem_singleton.1 q];exact ⟨by show s.size≤_;omega,fe⟩
  ·have lg:(GGlob.ros globs).length=globs.length:=by simp
   refine conI [] (fun i=>bif Nat.beq i 14 then some (3,64) else none) (fun _=>false) Tryz.func118 (fun _ h=>by cases h) ?_
   refine ⟨[.mut],.agg (GObj.ro ⟨sects,globs⟩),[_],c1,trivial,?_⟩
   refine ⟨[.ro],.agg (obR ⟨sects,globs⟩),[none],cC,trivial,fun h=>absurd (of_decide_eq_true h) hne,fun _=>?_⟩
   refine ⟨[.mut,.ro],.int .i64 k,[_,none],by rw[hls];exact c2,trivial,?_⟩
   refine ⟨[.mut,.ro],.int .i64 2,[_,none],c3,trivial,?_⟩
   refine ⟨fun h=>absurd (of_decide_eq_true h) (by decide),fun _=>⟨fun h=>absurd (of_decide_eq_true h) (by decide),fun _=>⟨fun _=>?_,fun h=>absurd rfl (of_decide_eq_false h)⟩⟩⟩
   refine ⟨[.mut,.frz],.str s,[_,none],c4,trivial,?_⟩
   refine ⟨[.mut,.ro],.agg (GExpr.ro e),[_,none],c5,trivial,?_⟩
   refine ⟨trivial,(by show ((GGlob.ros globs).length+1)*72≤_;rw[lg];omega),⟨⟨trivial,trivial,trivial,trivial,trivial,trivial⟩,trivial⟩,by kernel_rfl,?_⟩
   exact ⟨.trans (.agg (.cons (.refl _) (.cons (.of_eq (congrArg (AV.ow 5) (glob_cat globs ⟨s,e⟩))) (.refl _)))) (obR_mk _ _),.refl _,trivial⟩
 by_cases z4:z=4
 ·subst z4
  obtain ⟨s,j4,h4,hs,hj4,c4⟩:=spec_l1Str b hb j3 h3 hj3 [⟨#[110,101,119]⟩,⟨#[99,111,100,101]⟩] (by simp) (by simp)
  have hs:=str_small hs (by decide)
  obtain ⟨e,j5,h5,fe,hj5,c5⟩:=spec_l11Flat b hb j4 h4 hj4 2 (by decide)
  have cF:=spec_Fold e fe.1 fe.2
  have fF:=fold_fo fe
  refine ⟨⟨sects++[⟨s,false,[foldX e]⟩],globs⟩,j5,h5,⟨by show (sects++[_]).length≤_;rw[List.length_append,List.length_singleton];omega,ga.nglob,fun x hx=>?_,ga.globs⟩,hj5,?_⟩
  ·rcases List.mem_append.1 hx with q | q
   ·exact ga.sects x q
   ·rw[List.mem_singleton.1 q];exact ⟨by show s.size≤_;omega,by show 1≤600;decide,fun w hw=>by rw[List.mem_singleton.1 hw];exact fF⟩
  ·refine conI [] (fun i=>bif Nat.beq i 22 then some (3,64) else none) (fun _=>false) Tryz.func118 (fun _ h=>by cases h) ?_
   refine ⟨[.mut],.agg (GObj.ro ⟨sects,globs⟩),[_],c1,trivial,?_⟩
   refine ⟨[.ro],.agg (obR ⟨sects,globs⟩),[none],cC,trivial,fun h=>absurd (of_decide_eq_true h) hne,fun _=>?_⟩
   refine ⟨[.mut,.ro],.int .i64 k,[_,none],by rw[hls];exact c2,trivial,?_⟩
   refine ⟨[.mut,.ro],.int .i64 4,[_,none],c3,trivial,?_⟩
   refine ⟨fun h=>absurd (of_decide_eq_true h) (by decide),fun _=>⟨fun h=>absurd (of_decide_eq_true h) (by decide),fun _=>⟨fun h=>absurd (of_decide_eq_true h) (by decide),fun _=>⟨fun h=>absurd (of_decide_eq_true h) (by decide),fun _=>⟨fun _=>?_,fun h=>absurd rfl (of_decide_eq_false h)⟩⟩⟩⟩⟩
   refine ⟨[.mut,.frz],.str s,[_,none],c4,trivial,?_⟩
   refine ⟨[.mut,.ro],.agg (GExpr.ro e),[_,none],c5,trivial,?_⟩
   refine ⟨[.ro],.agg (GExpr.ro (foldX e)),[none],cF,trivial,?_⟩
   refine ⟨trivial,(by show ((secRs sects).length+1)*48≤_;rw[hls];omega),⟨⟨trivial,trivial,trivial,trivial⟩,trivial⟩,by kernel_rfl,?_⟩
   refine ⟨.trans (.agg (.cons (.ow ?_) (.refl _))) (obR_mk _ _),.refl _,trivial⟩
   exact sec_new sects s (foldX e)
 by_cases z3:z=3
 ·subst z3
  obtain ⟨kk,⟨m,j4,h4⟩,hrun,hm,hj4⟩:=WFin.ex b hb ws.length 300 (0,j3,h3) rfl hj3
  dsimp only at hm hj4
  refine ⟨⟨sects.modify k fun y=>{y with words:=y.words++List.replicate m (numE 1)},globs⟩,j4,h4,any_mod ga fun y hy=>?_,hj4,?_⟩
  ·have hy:sects[k]?=some y:=hy
   rw[hsec] at hy;injection hy with hy;subst hy
   refine ⟨gs.1,by show (ws++_).length≤_;rw[List.length_append,List.length_replicate];omega,fun w hw=>?_⟩
   rcases List.mem_append.1 hw with q | q
   ·exact gs.2.2 w q
   ·rw[List.eq_of_mem_replicate q];exact fo_okx (num_ok (h:=0) 1)
  ·have hfin (q:Nat) (W:List (List AV)) (eW:W=GExpr.ros (ws++List.replicate (q+1) (numE 1))):(((secRs (sects.modify k fun y=>{y with words:=y.words++List.replicate q (numE 1)})).set (k:Int).toNat [.str nm,.bool ov,.nilp]).modify (k:Int).toNat fun row=>row.set (0+2) (.ow 4 W))=secRs (sects.modify k fun y=>{y with words:=y.words++List.replicate (q+1) (numE 1)}):=by
    rw[secRs_mod hsec,secRs_mod hsec,Int.toNat_natCast,List.set_set,set_mod (by rw[hls];omega),eW];rfl
   have hM0:(sects.modify k fun y=>{y with words:=y.words++List.replicate 0 (numE 1)})=sects:=by
    rw[modify_id hsec];simp
   refine conI [] (fun i=>bif Nat.beq i 16||(Nat.beq i 18||Nat.beq i 20) then some (3,64) else none) (fun _=>false) Tryz.func118 (fun _ h=>by cases h) ?_
   refine ⟨[.mut],.agg (GObj.ro ⟨sects,globs⟩),[_],c1,trivial,?_⟩
   refine ⟨[.ro],.agg (obR ⟨sects,globs⟩),[none],cC,trivial,fun h=>absurd (of_decide_eq_true h) hne,fun _=>?_⟩
   refine ⟨[.mut,.ro],.int .i64 k,[_,none],by rw[hls];exact c2,trivial,?_⟩
   refine ⟨[.mut,.ro],.int .i64 3,[_,none],c3,trivial,?_⟩
   refine ⟨fun h=>absurd (of_decide_eq_true h) (by decide),fun _=>⟨fun h=>absurd (of_decide_eq_true h) (by decide),fun _=>⟨fun h=>absurd (of_decide_eq_true h) (by decide),fun _=>⟨fun _=>?_,fun h=>absurd rfl (of_decide_eq_false h)⟩⟩⟩⟩
   refine ⟨{p:Nat×WS // p.2.1≤300∧WFin b ws.length (m,j4,h4) p.1 p.2},fun p=>⟨[(0,.ptr 0 0 0),(2,.ptr 1 0 0),(3,.ptr 2 0 0),(4,.int .i64 k)],[(0,.box (cRow b p.1.2.2.1 p.1.2.2.2) []),(1,.box GObj.zero []),(2,.box (obR ⟨sects.modify k fun y=>{y with words:=y.words++List.replicate p.1.2.1 (numE 1)},globs⟩) [])]⟩,fun p=>p.1.1,⟨(kk,0,j3,h3),Nat.zero_le _,hrun⟩,?_,?_⟩
   ·refine ⟨rfl,rfl,rfl,rfl,rfl,rfl,rfl,.refl _,.refl _,?_,trivial⟩
    dsimp only
    rw[hM0];exact .refl _
   ·rintro ⟨⟨q,n,j,hh⟩,h300,hf⟩
    dsimp only at h300 hf⊢
    have hr1:(secRs (sects.modify k fun y=>{y with words:=y.words++List.replicate n (numE 1)}))[(k:Int).toNat]?=some [.str nm,.bool ov,.ow 4 (GExpr.ros (ws++List.replicate n (numE 1)))]:=by
     rw[secRs_mod hsec,Int.toNat_natCast,List.getElem?_set_self (by rw[hls];omega)];rfl
    have hkl1:(k:Int) < ((secRs (sects.modify k fun y=>{y with words:=y.words++List.replicate n (numE 1)})).length:Int):=by rw[secRs_len,List.length_modify];omega
    have lw1:(GExpr.ros (ws++List.replicate n (numE 1))).length=ws.length+n:=by rw[ros_len,List.length_append,List.length_replicate]
    have hbd:((GExpr.ros (ws++List.replicate n (numE 1))).length+1)*56≤140737488355328:=by rw[lw1];omega
    have hself:(secRs (sects.modify k fun y=>{y with words:=y.words++List.replicate n (numE 1)})).modify (k:Int).toNat (fun row=>row.set (0+2) (.ow 4 (GExpr.ros (ws++List.replicate n (numE 1)))))=secRs (sects.modify k fun y=>{y with words:=y.words++List.replicate n (numE 1)}):=
     modify_id hr1 rfl
    have hr2:((secRs (sects.modify k fun y=>{y with words:=y.words++List.replicate n (numE 1)})).set (k:Int).toNat [.str nm,.bool ov,.nilp])[(k:Int).toNat]?=some [.str nm,.bool ov,.nilp]:=by
     rw[List.getElem?_set_self (by rw[Int.toNat_natCast];omega)]
    have hkl2:(k:Int) < (((secRs (sects.modify k fun y=>{y with words:=y.words++List.replicate n (numE 1)})).set (k:Int).toNat [.str nm,.bool ov,.nilp]).length:Int):=by rw[List.length_set];exact hkl1
    have hcat:GExpr.ros (ws++List.replicate n (numE 1))++[[.int .i64 (numE 1).k,.int .i64 (numE 1).n,.str (numE 1).s,.ro 4 (GExpr.ros (numE 1).l)]]=GExpr.ros (ws++List.replicate (n+1) (numE 1)):=by
     rw[row_cat,List.append_assoc,List.replicate_succ']
    cases q with
    | zero=>
     obtain ⟨y,j',h',hy0,hy1,hnl,hj',c,e⟩:=hf
     have e1:IntKind.wrap .i64 (256+y)=256+y:=w64 (by omega) (by omega)
     dsimp only at hnl c e
     injection e with e2 e3
     injection e3 with e3 e4
     subst e2;subst e3;subst e4
     refine ⟨Int.natCast_nonneg _,hkl1,_,hr1,?_⟩
     refine ⟨[.mut,.ro],.int .i64 y,[some (.pb (cRow b j4 h4)),none],c,trivial,by kernel_rfl,fun h=>?_,fun h=>?_⟩
     ·have h:=of_decide_eq_true h
      rw[e1,lw1] at h
      exact absurd h hnl
     ·exact ⟨.trans (.agg (.cons (.ow (.of_eq hself)) (.refl _))) (obR_mk _ _),.refl _,trivial⟩
    | succ q=>
     obtain ⟨y,j',h',hy0,hy1,hlt,hj',c,hf'⟩:=hf
     have e1:IntKind.wrap .i64 (256+y)=256+y:=w64 (by omega) (by omega)
     dsimp only at hlt c
     refine ⟨Int.natCast_nonneg _,hkl1,_,hr1,?_⟩
     refine ⟨[.mut,.ro],.int .i64 y,[some (.pb (cRow b j' h')),none],c,trivial,by kernel_rfl,fun h=>?_,fun h=>?_⟩
     ·intro bb vv
      refine ⟨fun _=>?_,fun _=>?_⟩
      ·refine ⟨Int.natCast_nonneg _,hkl1,_,hr1,true,rfl,?_⟩
       refine ⟨[.ro],.agg (GExpr.ro (numE 1)),[none],spec_l10Num 1,trivial,?_⟩
       refine ⟨trivial,hbd,⟨⟨trivial,trivial,trivial,trivial,trivial⟩,trivial⟩,Int.natCast_nonneg _,hkl1,_,hr1,true,rfl,by kernel_rfl,?_⟩
       refine ⟨Int.natCast_nonneg _,by rw[List.length_append,List.length_singleton];omega,_,app_at _ _,?_⟩
       refine ⟨⟨(q,n+1,j',h'),by dsimp only;omega,hf'⟩,Nat.lt_succ_self _,rfl,rfl,rfl,rfl,rfl,rfl,rfl,.refl _,.refl _,.of_eq (congrArg (fun z=>[[AV.ow 3 z,AV.ow 5 (GGlob.ros globs)]]) (hfin n _ ((app_set _ _ _).trans hcat))),trivial⟩
      ·refine ⟨Int.natCast_nonneg _,hkl1,_,hr1,true,rfl,?_⟩
       refine ⟨[.ro],.agg (GExpr.ro (numE 1)),[none],spec_l10Num 1,trivial,?_⟩
       refine ⟨trivial,hbd,⟨⟨trivial,trivial,trivial,trivial,trivial⟩,trivial⟩,Int.natCast_nonneg _,hkl1,_,hr1,true,rfl,by kernel_rfl,?_⟩
       refine ⟨⟨(q,n+1,j',h'),by dsimp only;omega,hf'⟩,Nat.lt_succ_self _,rfl,rfl,rfl,rfl,rfl,rfl,rfl,.refl _,.refl _,.of_eq (congrArg (fun z=>[[AV.ow 3 z,AV.ow 5 (GGlob.ros globs)]]) (hfin n _ hcat)),trivial⟩
     ·have h:=of_decide_eq_false h
      rw[e1,lw1] at h
      exact absurd hlt h
 ·refine ⟨⟨sects,globs⟩,j3,h3,ga,hj3,?_⟩
  refine con Tryz.func118 ?_
  refine ⟨[.mut],.agg (GObj.ro ⟨sects,globs⟩),[_],c1,trivial,?_⟩
  refine ⟨[.ro],.agg (obR ⟨sects,globs⟩),[none],cC,trivial,fun h=>absurd (of_decide_eq_true h) hne,fun _=>?_⟩
  refine ⟨[.mut,.ro],.int .i64 k,[_,none],by rw[hls];exact c2,trivial,?_⟩
  refine ⟨[.mut,.ro],.int .i64 z,[_,none],c3,trivial,?_⟩
  refine ⟨fun h=>absurd (of_decide_eq_true h) z0,fun _=>⟨fun h=>absurd (of_decide_eq_true h) z1,fun _=>⟨fun h=>absurd (of_decide_eq_true h) z2,fun _=>⟨fun h=>absurd (of_decide_eq_true h) z3,fun _=>⟨fun h=>absurd (of_decide_eq_true h) z4,fun _=>?_⟩⟩⟩⟩⟩
  exact ⟨obR_ro _,.refl _,trivial⟩
end Go.Proofs.VI
