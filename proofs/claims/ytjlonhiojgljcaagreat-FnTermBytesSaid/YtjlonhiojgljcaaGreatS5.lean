/- Contracts of functions, and what they rest on: l13text l15texts. -/
import Derived.Test.YtjlonhiojgljcaaGreatS4
set_option linter.unusedVariables false
set_option linter.unusedSimpArgs false
set_option maxRecDepth 10000
set_option maxHeartbeats 4000000
namespace Go.Proofs.VI
open Go
def splitG (s:ByteArray):Nat→Nat→Nat→List ByteArray→List ByteArray
 | 0,_,_,out=>out
 | f+1,i,fr,out=>if i=s.size∧i=fr then out else if i=s.size∨byteAt s i=10 then splitG s f (i+1) (i+1) (out++[s.extract fr i]) else splitG s f (i+1) fr out
def splitV (s:ByteArray):List ByteArray:=splitG s (s.size+1) 0 0 []
def parG:List ByteArray→Nat→List GLine→List GLine×Int
 | [],_,out=>(out,-1)
 | x::l,i,out=>match parL x with | some y=>if i=100 then ([],i) else parG l (i+1) (out++[y]) | none=>([],i)
def parT (s:ByteArray):List GLine×Int:=parG (splitV s) 0 []
theorem splitG_in {s:ByteArray} {N:Nat}:∀ f i fr out,s.size+1=f+i→out.length≤i→(∀ x∈out,x.size≤s.size)→(∀ x∈splitG s f i fr out,x.size≤s.size)∧(splitG s f i fr out).length≤s.size+1
 | 0,i,fr,out,h,hn,ho=>⟨ho,by rw[splitG];omega⟩
 | f+1,i,fr,out,h,hn,ho=>by
  rw[splitG]
  split
  ·exact ⟨ho,by omega⟩
  ·split
   ·refine splitG_in (N:=N) f _ _ _ (by omega) (by rw[List.length_append,List.length_singleton];omega) fun x hx=>?_
    rcases List.mem_append.1 hx with g | g
    ·exact ho x g
    ·rw[List.mem_singleton.1 g,ByteArray.size_extract];omega
   ·exact splitG_in (N:=N) f _ _ _ (by omega) (by omega) ho
theorem splitV_in (s:ByteArray):(∀ x∈splitV s,x.size≤s.size)∧(splitV s).length≤s.size+1:=splitG_in (N:=0) _ 0 0 [] rfl (Nat.le_refl _) fun x hx=>absurd hx (List.not_mem_nil)
theorem parG_good:∀ (l:List ByteArray) (i:Nat) (out:List GLine),(∀ x∈l,x.size≤1099511627776)→(∀ x∈out,lineG x)→∀ x∈(parG l i out).1,lineG x
 | [],_,out,_,ho=>ho
 | y::l,i,out,hl,ho=>by
  rw[parG]
  rcases h:parL y with _ | z
  ·intro x hx;exact absurd hx (List.not_mem_nil)
  ·dsimp only
   split
   ·intro x hx;exact absurd hx (List.not_mem_nil)
   ·refine parG_good l _ _ (fun x hx=>hl x (List.mem_cons_of_mem _ hx)) fun x hx=>?_
    rcases List.mem_append.1 hx with g | g
    ·exact ho x g
    ·rw[List.mem_singleton.1 g]
     exact parL_good (by have:=hl y (List.mem_cons_self);omega) h
theorem parT_good {s:ByteArray} (hs:s.size≤1099511627776):∀ x∈(parT s).1,lineG x:=parG_good _ _ _ (fun x hx=>Nat.le_trans ((splitV_in s).1 x hx) hs) fun x hx=>absurd hx (List.not_mem_nil)
theorem str_cat (a:List ByteArray) (x:ByteArray):GString.ows a++[[AV.str x]]=GString.ows (a++[x]):=by
 rw[GString.ows_eq,GString.ows_eq,List.map_append];rfl
theorem str_len (a:List ByteArray):(GString.ows a).length=a.length:=by simp
theorem spec_l13Split (s:ByteArray) (hs:s.size≤1099511627776):Con 283 [.str s] (.ow 1 (GString.ows (splitV s))) [none]:=by
 refine con Tryz.func283 ?_
 refine ⟨{t:Nat×Nat×Nat×List ByteArray // s.size+1=t.1+t.2.1∧t.2.2.1≤t.2.1∧t.2.2.2.length≤t.2.1∧splitG s t.1 t.2.1 t.2.2.1 t.2.2.2=splitV s},fun t=>⟨[(0,.str s),(3,.own 0),(4,.int .i64 t.1.2.2.1),(5,.int .i64 t.1.2.1)],[(0,.rows 1 (GString.ows t.1.2.2.2) [])]⟩,fun t=>t.1.1,⟨(s.size+1,0,0,[]),rfl,Nat.zero_le _,Nat.zero_le _,rfl⟩,?_,?_⟩
 ·exact ⟨rfl,rfl,rfl,rfl,.refl _,trivial⟩
 ·rintro ⟨⟨f,i,fr,out⟩,h1,h2,h3,h4⟩
  dsimp only at h1 h2 h3 h4⊢
  have e1:IntKind.wrap .i64 ((i:Int)+1)=((i+1:Nat):Int):=w64 (by omega) (by omega)
  refine ⟨fun h=>?_,fun h=>?_⟩
  ·have h:=of_decide_eq_true h
   obtain ⟨g,rfl⟩:∃ g,f=g+1:=⟨f - 1,by omega⟩
   rw[splitG] at h4
   have hi:i≤s.size:=by omega
   refine ⟨fun h5=>⟨fun h6=>?_,fun h6=>?_⟩,fun h5=>?_⟩
   ·have h5:=of_decide_eq_true h5
    have h6:=of_decide_eq_true h6
    rw[if_pos ⟨by omega,by omega⟩] at h4
    rw[←h4]
    exact ⟨.refl _,trivial⟩
   ·have h5:=of_decide_eq_true h5
    have h6:=of_decide_eq_false h6
    rw[if_neg (fun q=>h6 (by omega)),if_pos (.inl (by omega))] at h4
    refine ⟨fun h7=>absurd h5 (of_decide_eq_false h7),fun h7=>⟨Int.natCast_nonneg _,by omega,by omega,trivial,(by show ((GString.ows out).length+1)*16≤_;rw[str_len];omega),⟨⟨trivial,trivial⟩,trivial⟩,?_⟩⟩
    exact ⟨⟨(g,i+1,i+1,out++[s.extract fr i]),by dsimp only;omega,Nat.le_refl _,by dsimp only;rw[List.length_append,List.length_singleton];omega,h4⟩,Nat.lt_succ_self _,rfl,congrArg (AV.int .i64) e1,congrArg (AV.int .i64) e1,rfl,.of_eq (str_cat out _),trivial⟩
   ·have h5:=of_decide_eq_false h5
    rw[if_neg (fun q=>h5 (by omega))] at h4
    refine ⟨fun h7=>⟨Int.natCast_nonneg _,by omega,fun h8=>?_,fun h8=>?_⟩,fun h7=>absurd (of_decide_eq_true h7) h5⟩
    ·rw[if_pos (.inr (of_decide_eq_true h8))] at h4
     refine ⟨Int.natCast_nonneg _,by omega,by omega,trivial,(by show ((GString.ows out).length+1)*16≤_;rw[str_len];omega),⟨⟨trivial,trivial⟩,trivial⟩,?_⟩
     exact ⟨⟨(g,i+1,i+1,out++[s.extract fr i]),by dsimp only;omega,Nat.le_refl _,by dsimp only;rw[List.length_append,List.length_singleton];omega,h4⟩,Nat.lt_succ_self _,rfl,congrArg (AV.int .i64) e1,congrArg (AV.int .i64) e1,rfl,.of_eq (str_cat out _),trivial⟩
    ·rw[if_neg (fun q=>q.elim (fun q=>h5 (by omega)) (of_decide_eq_false h8))] at h4
     exact ⟨⟨(g,i+1,fr,out),by dsimp only;omega,by dsimp only;omega,by dsimp only;omega,h4⟩,Nat.lt_succ_self _,rfl,rfl,congrArg (AV.int .i64) e1,rfl,.refl _,trivial⟩
  ·have h:=of_decide_eq_false h
   have:f=0:=by omega
   subst this
   rw[splitG] at h4
   rw[←h4]
   exact ⟨.refl _,trivial⟩
theorem line_cat (a:List GLine) (x:GLine):GLine.ros a++[GLine.ro x]=GLine.ros (a++[x]):=by
 rw[GLine.ros_eq,GLine.ros_eq,List.map_append];rfl
theorem line_len (a:List GLine):(GLine.ros a).length=a.length:=by simp
theorem spec_ParseText (s:ByteArray) (hs:s.size≤1099511627000):Con 248 [.str s] (.tup [.ro 17 (GLine.ros (parT s).1),.int .i64 (parT s).2]) [none]:=by
 have c1:=spec_l13Split s (by omega)
 have hin:=splitV_in s
 rw[parT]
 generalize splitV s=L at*
 refine con Tryz.func248 ?_
 refine ⟨[.ro],.ow 1 (GString.ows L),[none],c1,trivial,?_⟩
 have hL:(GString.ows L).length=L.length:=str_len L
 refine ⟨{t:Nat×List GLine // t.1≤L.length∧t.2.length=t.1∧t.1≤100∧parG (L.drop t.1) t.1 t.2=parG L 0 []},fun t=>⟨[(4,.own 1),(5,.own 0),(6,.int .i64 t.1.1)],[(0,.rows 1 (GString.ows L) []),(1,.rows 17 (GLine.ros t.1.2) [])]⟩,fun t=>L.length - t.1.1,⟨(0,[]),Nat.zero_le _,rfl,by decide,by rw[List.drop_zero]⟩,?_,?_⟩
 ·exact ⟨rfl,rfl,.refl _,rfl,.refl _,trivial⟩
 ·rintro ⟨⟨i,out⟩,h1,h2,h9,h3⟩
  dsimp only at h1 h2 h3 h9⊢
  have e1:IntKind.wrap .i64 ((i:Int)+1)=((i+1:Nat):Int):=w64 (by omega) (by omega)
  refine ⟨fun h=>?_,fun h=>?_⟩
  ·have h:=of_decide_eq_true h
   rw[hL] at h
   have hi:i < L.length:=by omega
   rw[List.drop_eq_getElem_cons hi,parG] at h3
   have c2:=spec_ParseLine L[i] (by have:=hin.1 _ (List.getElem_mem hi);omega)
   have hrow:(GString.ows L)[i]?=some [AV.str L[i]]:=map_get _ _ hi
   refine ⟨Int.natCast_nonneg _,by rw[hL];exact h,_,hrow,?_⟩
   rcases hx:parL L[i] with _ | x<;>rw[hx] at c2 h3
   ·refine ⟨[.ro],.tup [.agg (GLine.ro zLine),.bool false],[none],c2,trivial,?_⟩
    rw[←h3]
    refine ⟨fun h4=>⟨fun h5=>?_,fun h5=>(by cases h5)⟩,fun h4=>?_⟩
    ·exact ⟨.tup (.cons (.trans (.frz _) (.of_eq rfl)) (.refl _)),trivial⟩
    ·exact ⟨.tup (.cons (.trans (.frz _) (.of_eq rfl)) (.refl _)),trivial⟩
   ·refine ⟨[.ro],.tup [.agg (GLine.ro x),.bool true],[none],c2,trivial,?_⟩
    refine ⟨fun h4=>⟨fun h5=>(by cases h5),fun h5=>?_⟩,fun h4=>?_⟩
    ·have h4:=of_decide_eq_false h4
     dsimp only at h3
     rw[if_neg (fun q=>h4 (by omega))] at h3
     refine ⟨trivial,(by show ((GLine.ros out).length+1)*208≤_;rw[line_len];omega),⟨⟨trivial,trivial,trivial,trivial,trivial,trivial,trivial,trivial,trivial,trivial,trivial,trivial,trivial,trivial,trivial,trivial,trivial,trivial⟩,trivial⟩,?_⟩
     exact ⟨⟨(i+1,out++[x]),hi,by dsimp only;rw[List.length_append,List.length_singleton,h2],by dsimp only;omega,h3⟩,Nat.sub_succ_lt_self _ _ hi,congrArg (AV.int .i64) e1,rfl,.refl _,rfl,.of_eq (line_cat out x),trivial⟩
    ·have h4:=of_decide_eq_true h4
     dsimp only at h3
     rw[if_pos (by omega)] at h3
     rw[←h3]
     exact ⟨.tup (.cons (.trans (.frz _) (.of_eq rfl)) (.refl _)),trivial⟩
  ·have h:=of_decide_eq_false h
   rw[hL] at h
   rw[List.drop_eq_nil_of_le (by omega),parG] at h3
   rw[←h3]
   exact ⟨.tup (.cons (.trans (.frz _) (.of_eq (congrArg (AV.ro 17) (GLine.ror _)))) (.refl _)),trivial⟩
def texts:List ByteArray:=[⟨#[115,116,97,114,116,32,58,10,109,111,118,32,35,97,32,44,32,114,48,10,109,111,118,32,64,35,98,32,44,32,114,49,10,97,100,100,32,114,49,32,44,32,114,48,10,101,109,116,32,49,10,104,97,108,116,10,97,32,58,10,46,119,111,114,100,32,53,10,98,32,58,10,46,119,111,114,100,32,60,97,32,43,32,50,62,32,44,32,46,10]⟩,⟨#[46,103,108,111,98,108,32,102,32,44,32,103,10,102,32,58,10,109,111,118,32,35,55,32,44,32,114,48,10,108,32,58,10,100,101,99,32,114,48,10,98,110,101,32,108,10,106,115,114,32,112,99,32,44,32,103,10,114,116,115,32,112,99,10]⟩,⟨#[46,103,108,111,98,108,32,103,10,46,115,101,99,116,32,100,97,116,97,10,120,32,58,10,46,98,108,107,119,32,51,10,46,115,101,99,116,32,99,111,100,101,10,103,32,58,10,109,111,118,32,120,32,44,32,114,50,10,105,110,99,32,120,10,114,116,115,32,112,99,10,107,32,61,32,60,46,32,45,32,103,62,10,46,119,111,114,100,32,107,10]⟩,⟨#[46,103,108,111,98,108,32,109,97,105,110,32,44,32,102,10,109,97,105,110,32,58,10,106,115,114,32,112,99,32,44,32,102,10,104,97,108,116,10,46,115,101,99,116,32,99,111,109,32,44,32,111,118,101,114,10,46,119,111,114,100,32,49,32,44,32,50,10]⟩,⟨#[46,103,108,111,98,108,32,104,10,46,115,101,99,116,32,99,111,109,32,44,32,111,118,101,114,10,104,32,58,10,46,98,108,107,119,32,52,10,46,115,101,99,116,32,99,111,100,101,10,99,108,114,32,104,10,109,111,118,32,35,60,104,32,43,32,50,62,32,44,32,114,53,10]⟩]
theorem texts_parse:(texts.map fun t=>((parT t).2,(parT t).1.length))=[(-1,10),(-1,8),(-1,11),(-1,6),(-1,7)]:=by kernel_rfl
end Go.Proofs.VI
