/- Contracts of functions, and what they rest on: l15sym l11putc l15pass. -/
import Derived.Test.YtjlonhiojgljcaaGreatS5
import Derived.Test.YtjlonhiojgljcaaGreatN0
set_option linter.unusedVariables false
set_option linter.unusedSimpArgs false
set_option maxRecDepth 10000
set_option maxHeartbeats 4000000
namespace Go.Proofs.VI
open Go
abbrev symR:GSym→List AV:=GSym.ro
abbrev symRs (l:List GSym):List (List AV):=l.map GSym.ro
def secR (x:GSect):List AV:=[.str x.name,.bool x.over,.ow 4 (GExpr.ros x.words)]
abbrev secRs (l:List GSect):List (List AV):=l.map secR
def symAt (l:List GSym) (s:ByteArray):Int:=if l.findIdx (fun x=>decide (x.name=s)) < l.length then (l.findIdx (fun x=>decide (x.name=s)):Nat) else -1
theorem symRs_len (l:List GSym):(symRs l).length=l.length:=by simp
theorem secRs_len (l:List GSect):(secRs l).length=l.length:=by simp
theorem symR_ror (l:List GSym):toRoRows (symRs l)=symRs l:=by
 exact GSym.ror l
theorem sym_cat (a:List GSym) (x:GSym):symRs a++[symR x]=symRs (a++[x]):=by
 show a.map GSym.ro++[x].map GSym.ro=(a++[x]).map GSym.ro
 rw[List.map_append]
theorem symAt_hit {l:List GSym} {s:ByteArray} {i:Nat} (hi:i < l.length) (h:l[i].name=s) (hd:∀ j (h:j < l.length),j < i→¬ l[j].name=s):symAt l s=i:=by
 have e:l.findIdx (fun x=>decide (x.name=s))=i:=by
  refine (List.findIdx_eq hi).2 ⟨by simpa using h,fun j hj=>by simpa using hd j (by omega) hj⟩
 rw[symAt,e,if_pos hi]
theorem symAt_miss {l:List GSym} {s:ByteArray} (hd:∀ j (h:j < l.length),j < l.length→¬ l[j].name=s):symAt l s= -1:=by
 rw[symAt,if_neg]
 intro h
 have:=List.findIdx_getElem (w:=h)
 exact hd _ h h (by simpa using this)
theorem spec_l15Sym (l:List GSym) (s:ByteArray) (hl:l.length≤1099511627776):Con 247 [.agg [.ro 5 (symRs l),.ifc,.ifc],.str s] (.int .i64 (symAt l s)) [none,none]:=by
 have hlen:=symRs_len l
 refine con Tryz.func247 ?_
 refine ⟨{i:Nat // i≤l.length∧∀ j (h:j < l.length),j < i→¬ l[j].name=s},fun i=>⟨[(1,.str s),(2,.ptr 0 0 0),(5,.int .i64 i.1)],[(0,.box [.ro 5 (symRs l),.ifc,.ifc] [])]⟩,fun i=>l.length - i.1,⟨0,Nat.zero_le _,fun j h h2=>absurd h2 (Nat.not_lt_zero _)⟩,?_,?_⟩
 ·exact ⟨rfl,rfl,rfl,rfl,.refl _,trivial⟩
 ·rintro ⟨i,hi,hd⟩
  dsimp only
  have e1:IntKind.wrap .i64 ((i:Int)+1)=((i+1:Nat):Int):=w64 (by omega) (by omega)
  refine ⟨fun h=>?_,fun h=>?_⟩
  ·have h:=of_decide_eq_true h
   rw[hlen] at h
   have hi:i < l.length:=by omega
   have hrow:(symRs l)[i]?=some (symR l[i]):=map_get _ _ hi
   refine ⟨Int.natCast_nonneg _,_,hrow,fun h2=>?_,fun h2=>?_⟩
   ·exact ⟨.of_eq (congrArg (AV.int .i64) (symAt_hit hi (of_decide_eq_true h2) hd).symm),trivial⟩
   ·refine ⟨⟨i+1,hi,fun j hj h3=>?_⟩,Nat.sub_succ_lt_self _ _ hi,rfl,rfl,rfl,congrArg (AV.int .i64) e1,.refl _,trivial⟩
    rcases Nat.lt_succ_iff_lt_or_eq.1 h3 with h4 | h4
    ·exact hd j hj h4
    ·subst h4;exact of_decide_eq_false h2
  ·have h:=of_decide_eq_false h
   rw[hlen] at h
   exact ⟨.of_eq (congrArg (AV.int .i64) (symAt_miss fun j hj _=>hd j hj (by omega)).symm),trivial⟩
theorem spec_l15SymR (l:List GSym) (S G:List (List AV)) (s:ByteArray) (hl:l.length≤1099511627776):Con 247 [.agg [.ro 5 (symRs l),.ro 3 S,.ro 1 G],.str s] (.int .i64 (symAt l s)) [none,none]:=
 Contract.le (.cons (.agg (.cons (.refl _) (.cons (.anyr 3 S) (.cons (.anyr 1 G) (.refl _))))) (.refl _)) (spec_l15Sym l s hl)
theorem spec_l15Vals (l:List GSym) (hl:l.length≤1099511627):Con 318 [.agg [.ro 5 (symRs l),.ifc,.ifc]] (.tup [.ow 1 (GString.ows (l.map GSym.name)),.ow 4 (GExpr.ros (l.map GSym.e))]) [none]:=by
 have hlen:=symRs_len l
 refine con Tryz.func318 ?_
 refine ⟨{i:Nat // i≤l.length},fun i=>⟨[(1,.ptr 0 0 0),(4,.own 1),(5,.own 2),(6,.int .i64 i.1)],[(0,.box [.ro 5 (symRs l),.ifc,.ifc] []),(1,.rows 1 (GString.ows ((l.map GSym.name).take i.1)) []),(2,.rows 4 (GExpr.ros ((l.map GSym.e).take i.1)) [])]⟩,fun i=>l.length - i.1,⟨0,Nat.zero_le _⟩,?_,?_⟩
 ·exact ⟨rfl,rfl,rfl,.refl _,rfl,.refl _,rfl,.refl _,trivial⟩
 ·rintro ⟨i,hi⟩
  dsimp only
  have e1:IntKind.wrap .i64 ((i:Int)+1)=((i+1:Nat):Int):=w64 (by omega) (by omega)
  have l1:(GString.ows ((l.map GSym.name).take i)).length=i:=by simp;omega
  have l2:(GExpr.ros ((l.map GSym.e).take i)).length=i:=by rw[GExpr.ros_eq];simp;omega
  refine ⟨fun h=>?_,fun h=>?_⟩
  ·have h:=of_decide_eq_true h
   rw[hlen] at h
   have hi:i < l.length:=by omega
   have hrow:(symRs l)[i]?=some (symR l[i]):=map_get _ _ hi
   have s1:GString.ows ((l.map GSym.name).take i)++[[AV.str l[i].name]]=GString.ows ((l.map GSym.name).take (i+1)):=by
    rw[str_cat,List.take_succ,List.getElem?_map,List.getElem?_eq_getElem hi];rfl
   have s2:GExpr.ros ((l.map GSym.e).take i)++[[AV.int .i64 l[i].e.k,AV.int .i64 l[i].e.n,AV.str l[i].e.s,AV.ro 4 (GExpr.ros l[i].e.l)]]=GExpr.ros ((l.map GSym.e).take (i+1)):=by
    rw[row_cat,List.take_succ,List.getElem?_map,List.getElem?_eq_getElem hi];rfl
   refine ⟨Int.natCast_nonneg _,_,hrow,trivial,(by show ((GString.ows _).length+1)*16≤_;rw[l1];omega),⟨⟨trivial,trivial⟩,trivial⟩,?_⟩
   refine ⟨Int.natCast_nonneg _,_,hrow,trivial,(by show ((GExpr.ros _).length+1)*56≤_;rw[l2];omega),⟨⟨trivial,trivial,trivial,trivial,trivial⟩,trivial⟩,?_⟩
   exact ⟨⟨i+1,hi⟩,Nat.sub_succ_lt_self _ _ hi,rfl,rfl,congrArg (AV.int .i64) e1,.refl _,rfl,.of_eq s1,rfl,.of_eq s2,trivial⟩
  ·have h:=of_decide_eq_false h
   rw[hlen] at h
   rw[List.take_of_length_le (by rw[List.length_map];omega),List.take_of_length_le (by rw[List.length_map];omega)]
   exact ⟨.refl _,trivial⟩
theorem spec_l15ValsM (l:List GSym) (S G:List (List AV)) (hl:l.length≤1099511627):Con 318 [.agg [.ow 5 (symRs l),.ow 3 S,.ro 1 G]] (.tup [.ow 1 (GString.ows (l.map GSym.name)),.ow 4 (GExpr.ros (l.map GSym.e))]) [some (.agg [.ow 5 (symRs l),.ow 3 S,.ro 1 G])]:=by
 have hlen:=symRs_len l
 refine con Tryz.func318 ?_
 refine ⟨{i:Nat // i≤l.length},fun i=>⟨[(0,.agg [.own 0,.own 1,.ro 1 G]),(1,.ptr 3 0 0),(4,.own 4),(5,.own 5),(6,.int .i64 i.1)],[(0,.rows 5 (symRs l) []),(1,.rows 3 S []),(3,.box [.nilp,.nilp,.ro 1 G] [⟨0,0,0⟩,⟨0,1,1⟩]),(4,.rows 1 (GString.ows ((l.map GSym.name).take i.1)) []),(5,.rows 4 (GExpr.ros ((l.map GSym.e).take i.1)) [])]⟩,fun i=>l.length - i.1,⟨0,Nat.zero_le _⟩,?_,?_⟩
 ·exact ⟨rfl,rfl,rfl,rfl,rfl,.refl _,rfl,.refl _,rfl,⟨⟨rfl,rfl⟩,rfl,⟨rfl,rfl⟩,rfl,trivial⟩,rfl,.refl _,rfl,.refl _,trivial⟩
 ·rintro ⟨i,hi⟩
  dsimp only
  have e1:IntKind.wrap .i64 ((i:Int)+1)=((i+1:Nat):Int):=w64 (by omega) (by omega)
  have l1:(GString.ows ((l.map GSym.name).take i)).length=i:=by simp;omega
  have l2:(GExpr.ros ((l.map GSym.e).take i)).length=i:=by rw[GExpr.ros_eq];simp;omega
  refine ⟨fun h=>?_,fun h=>?_⟩
  ·have h:=of_decide_eq_true h
   rw[hlen] at h
   have hi:i < l.length:=by omega
   have hrow:(symRs l)[i]?=some (symR l[i]):=map_get _ _ hi
   have s1:GString.ows ((l.map GSym.name).take i)++[[AV.str l[i].name]]=GString.ows ((l.map GSym.name).take (i+1)):=by
    rw[str_cat,List.take_succ,List.getElem?_map,List.getElem?_eq_getElem hi];rfl
   have s2:GExpr.ros ((l.map GSym.e).take i)++[[AV.int .i64 l[i].e.k,AV.int .i64 l[i].e.n,AV.str l[i].e.s,AV.ro 4 (GExpr.ros l[i].e.l)]]=GExpr.ros ((l.map GSym.e).take (i+1)):=by
    rw[row_cat,List.take_succ,List.getElem?_map,List.getElem?_eq_getElem hi];rfl
   refine ⟨Int.natCast_nonneg _,by rw[hlen];exact h,_,hrow,trivial,(by show ((GString.ows _).length+1)*16≤_;rw[l1];omega),⟨⟨trivial,trivial⟩,trivial⟩,?_⟩
   refine ⟨Int.natCast_nonneg _,by rw[hlen];exact h,_,hrow,trivial,(by show ((GExpr.ros _).length+1)*56≤_;rw[l2];omega),⟨⟨trivial,trivial,trivial,trivial,trivial⟩,trivial⟩,?_⟩
   refine ⟨⟨i+1,hi⟩,Nat.sub_succ_lt_self _ _ hi,?_⟩
   exact ⟨rfl,rfl,rfl,congrArg (AV.int .i64) e1,rfl,.refl _,rfl,.refl _,rfl,⟨⟨rfl,rfl⟩,rfl,⟨rfl,rfl⟩,rfl,trivial⟩,rfl,.of_eq s1,rfl,.of_eq s2,trivial⟩
  ·have h:=of_decide_eq_false h
   rw[hlen] at h
   rw[List.take_of_length_le (by rw[List.length_map];omega),List.take_of_length_le (by rw[List.length_map];omega)]
   exact ⟨.refl _,.refl _,trivial⟩
mutual
def cleanE:GExpr→Bool
 | .mk k _ _ l=>cleanL l&&(decide (k≠2)&&decide (k≠3))
def cleanL:List GExpr→Bool
 | []=>true
 | e::l=>cleanE e&&cleanL l
end
theorem cleanL_all (l:List GExpr):cleanL l=l.all cleanE:=by
 induction l with
 | nil=>rfl
 | cons e l ih=>rw[cleanL,ih];rfl
theorem cleanE_un (a:GExpr):cleanE a=(a.l.all cleanE&&(decide (a.k≠2)&&decide (a.k≠3))):=by
 cases a;rw[cleanE,cleanL_all];rfl
theorem spec_l15Clean:∀ (a:GExpr) (fa:GExpr.fit a),Con 320 [.agg (GExpr.ro a)] (.bool (cleanE a)) [none]:=by
 refine GExpr.ind fun a ih fa=>?_
 have ua:=GExpr.fit_un fa
 have la:=ros_len a.l
 refine con Tryz.func320 ?_
 refine ⟨{i:Nat // i≤a.l.length∧∀ j (h:j < a.l.length),j < i→cleanE a.l[j]=true},fun i=>⟨[(1,.ptr 0 0 0),(3,.int .i64 i.1)],[(0,.box (GExpr.ro a) [])]⟩,fun i=>a.l.length - i.1,⟨0,Nat.zero_le _,fun j h h2=>absurd h2 (Nat.not_lt_zero _)⟩,?_,?_⟩
 ·exact ⟨rfl,rfl,rfl,.refl _,trivial⟩
 ·rintro ⟨i,hi,hd⟩
  dsimp only
  have e1:IntKind.wrap .i64 ((i:Int)+1)=((i+1:Nat):Int):=w64 (by omega) (by omega)
  refine ⟨fun h=>?_,fun h=>?_⟩
  ·have h:=of_decide_eq_true h
   rw[la] at h
   have hi:i < a.l.length:=by omega
   refine ⟨Int.natCast_nonneg _,_,ros_get _ _ hi,?_⟩
   refine ⟨[.ro],.bool (cleanE a.l[i]),[none],ih _ (List.getElem_mem hi) (ua.2 _ (List.getElem_mem hi)),trivial,fun h2=>?_,fun h2=>?_⟩
   ·refine ⟨.of_eq (congrArg AV.bool ?_),trivial⟩
    rw[cleanE_un,List.all_eq_false.2 ⟨_,List.getElem_mem hi,by simpa using h2⟩];rfl
   ·refine ⟨⟨i+1,hi,fun j hj h3=>?_⟩,Nat.sub_succ_lt_self _ _ hi,rfl,rfl,congrArg (AV.int .i64) e1,.refl _,trivial⟩
    rcases Nat.lt_succ_iff_lt_or_eq.1 h3 with h4 | h4
    ·exact hd j hj h4
    ·subst h4;simpa using h2
  ·have h:=of_decide_eq_false h
   rw[la] at h
   have hall:a.l.all cleanE=true:=List.all_eq_true.2 fun x hx=>by
    obtain ⟨j,hj,rfl⟩:=List.mem_iff_getElem.1 hx
    exact hd j hj (by omega)
   refine ⟨fun h2=>?_,fun h2=>?_⟩
   ·refine ⟨.of_eq (congrArg AV.bool ?_),trivial⟩
    rw[cleanE_un,hall,h2];rfl
   ·refine ⟨.of_eq (congrArg AV.bool ?_),trivial⟩
    rw[cleanE_un,hall,h2];rfl
def putOkE (here:GExpr) (vs:List GExpr) (x e:GExpr):Bool:=okE e 1 false&&(okE here 1 false&&((vs.all fun v=>okE v 1 false)&&okE x 1 false))
def putEV (here:GExpr) (ns:List GString) (vs:List GExpr) (e:GExpr):GExpr:=if putOkE here vs (putX here ns vs e) e=true then putX here ns vs e else zExpr
theorem zExpr_ow:Sim (.agg [.int .i64 0,.int .i64 0,.str ⟨#[]⟩,.nils]) (.agg (GExpr.ow zExpr)):=by
 show Sim (.agg [.int .i64 0,.int .i64 0,.str ⟨#[]⟩,.nils]) (.agg [.int .i64 0,.int .i64 0,.str ⟨#[]⟩,.ow 4 []])
 exact .agg (.cons (.refl _) (.cons (.refl _) (.cons (.refl _) (.cons (.nil 4) (.refl _)))))
theorem putEV_fo {here:GExpr} {ns:List GString} {vs:List GExpr} {e:GExpr} (h:FO here) (hv:∀ v∈vs,FO v) (he:FO e):FO (putEV here ns vs e):=by
 rw[putEV];split
 ·exact putX_fo h hv e he
 ·exact tg_zero
theorem spec_Put (e here:GExpr) (ns:List GString) (vs:List GExpr) (fe:FO e) (fh:FO here) (fv:∀ v∈vs,FO v) (hn:ns.length≤1099511627776) (hl:ns.length=vs.length):Con 319 [.agg (GExpr.ro e),.agg (GExpr.ro here),.ro 1 (GString.ros ns),.ro 4 (GExpr.ros vs)] (.agg (GExpr.ow (putEV here ns vs e))) [none,none,none,none]:=by
 have c1:=spec_ExprOk e fe.1 fe.2
 have c2:=spec_ExprOk here fh.1 fh.2
 have cP:=spec_l11Put here ns vs fh.1 (fun v hv=>(fv v hv).1) hn hl e fe.1
 have fx:=putX_fo (ns:=ns) fh fv e fe
 have c3:=spec_ExprOk (putX here ns vs e) fx.1 fx.2
 have k1:(GString.ros ns).length=ns.length:=by simp
 have k2:(GExpr.ros vs).length=vs.length:=ros_len vs
 have bad (h:putOkE here vs (putX here ns vs e) e=false):putEV here ns vs e=zExpr:=by rw[putEV,if_neg (by rw[h];decide)]
 refine con Tryz.func319 ?_
 refine ⟨[.ro],.bool (okE e 1 false),[none],c1,trivial,fun h1=>⟨[.ro],.bool (okE here 1 false),[none],c2,trivial,fun h2=>⟨fun h3=>?_,fun h3=>?_⟩,fun h2=>?_⟩,fun h1=>?_⟩<;>simp only[Bool.not_eq_true',Bool.not_eq_false'] at h1
 ·exact absurd (of_decide_eq_true h3) (fun g=>g (by rw[k1,k2,hl]))
 ·simp only[Bool.not_eq_true',Bool.not_eq_false'] at h2
  refine ⟨{i:Nat // i≤vs.length∧∀ j (h:j < vs.length),j < i→okE vs[j] 1 false=true},fun i=>⟨[(2,.ro 1 (GString.ros ns)),(3,.ro 4 (GExpr.ros vs)),(4,.ptr 0 0 0),(5,.ptr 1 0 0),(8,.ptr 2 0 0),(9,.int .i64 i.1)],[(0,.box (GExpr.ro e) []),(1,.box (GExpr.ro here) []),(2,.box GExpr.zero [])]⟩,fun i=>vs.length - i.1,⟨0,Nat.zero_le _,fun j h h2=>absurd h2 (Nat.not_lt_zero _)⟩,?_,?_⟩
  ·exact ⟨rfl,rfl,rfl,rfl,rfl,rfl,rfl,rfl,rfl,.refl _,.refl _,.refl _,trivial⟩
  ·rintro ⟨i,hi,hd⟩
   dsimp only
   have e1:IntKind.wrap .i64 ((i:Int)+1)=((i+1:Nat):Int):=w64 (by omega) (by omega)
   refine ⟨fun h=>?_,fun h=>?_⟩
   ·have h:=of_decide_eq_true h
    rw[k2] at h
    have hi:i < vs.length:=by omega
    have c4:=spec_ExprOk vs[i] (fv _ (List.getElem_mem hi)).1 (fv _ (List.getElem_mem hi)).2
    refine ⟨Int.natCast_nonneg _,_,ros_get _ _ hi,?_⟩
    refine ⟨[.ro],.bool (okE vs[i] 1 false),[none],c4,trivial,fun h3=>?_,fun h3=>?_⟩<;>simp only[Bool.not_eq_true',Bool.not_eq_false'] at h3
    ·rw[bad (by rw[putOkE,List.all_eq_false.2 ⟨_,List.getElem_mem hi,by rw[h3];decide⟩];simp)]
     exact ⟨zExpr_ow,trivial⟩
    ·refine ⟨⟨i+1,hi,fun j hj h4=>?_⟩,Nat.sub_succ_lt_self _ _ hi,rfl,rfl,rfl,rfl,rfl,rfl,rfl,rfl,congrArg (AV.int .i64) e1,.refl _,.refl _,.refl _,trivial⟩
     rcases Nat.lt_succ_iff_lt_or_eq.1 h4 with h5 | h5
     ·exact hd j hj h5
     ·subst h5;exact h3
   ·have h:=of_decide_eq_false h
    rw[k2] at h
    have hall:(vs.all fun v=>okE v 1 false)=true:=List.all_eq_true.2 fun x hx=>by
     obtain ⟨j,hj,rfl⟩:=List.mem_iff_getElem.1 hx
     exact hd j hj (by omega)
    refine ⟨[.ro,.ro,.ro,.ro],.agg (GExpr.ow (putX here ns vs e)),[none,none,none,none],cP,trivial,?_⟩
    refine ⟨[.ro],.bool (okE (putX here ns vs e) 1 false),[none],by rw[GExpr.roo];exact c3,⟨trivial,trivial⟩,fun h3=>?_,fun h3=>?_⟩<;>simp only[Bool.not_eq_true',Bool.not_eq_false'] at h3
    ·rw[bad (by rw[putOkE,h3];simp)]
     exact ⟨zExpr_ow,trivial⟩
    ·rw[putEV,if_pos (by rw[putOkE,h1,h2,hall,h3];rfl)]
     exact ⟨.refl _,trivial⟩
 ·simp only[Bool.not_eq_true',Bool.not_eq_false'] at h2
  rw[bad (by rw[putOkE,h2];simp)]
  exact ⟨zExpr_ow,trivial⟩
 ·rw[bad (by rw[putOkE,h1];rfl)]
  exact ⟨zExpr_ow,trivial⟩
structure PS where
 syms:List GSym
 sects:List GSect
 globs:List GString
 ats:List Int
 sect:Nat
 code:Int
def pRow (p:PS):List AV:=[.ow 5 (symRs p.syms),.ow 3 (secRs p.sects),.ro 1 (GString.ros p.globs),.ow 1 (GInt.ows p.ats),.int .i64 p.sect,.int .i64 p.code]
structure OkP (n:Nat) (p:PS):Prop where
 len:p.ats.length=p.sects.length
 few:p.sects.length≤8
 here:p.sect < p.sects.length
 syms:∀ x∈p.syms,OkX 6 x.e
 nsym:p.syms.length≤n
 globs:SortedS p.globs
 nglob:p.globs.length≤6*n
 ats:∀ a∈p.ats,0≤a∧a≤512
def hereV (sect:Nat) (a:Int):GExpr:=sumE (.mk 11 sect ⟨#[]⟩ []) a
theorem hereV_fo {sect:Nat} {a:Int} (h:sect≤9) (h0: -1000000≤a) (h1:a≤1000000):OkX 6 (hereV sect a):=by
 have e:partE (.mk 11 sect ⟨#[]⟩ [])=(.mk 11 sect ⟨#[]⟩ [],0):=rfl
 have x:OkX 5 (.mk 11 sect ⟨#[]⟩ []):= .sect (by omega) (by omega)
 rw[hereV,sumE,e,addE]
 split
 ·exact x.up 6 (by decide)
 ·exact .two (by decide) (by decide) x (num_ok _)
def defV (p:PS) (s:ByteArray) (e:GExpr):PS:=if 0≤symAt p.syms s then {p with code:=2} else {p with syms:=p.syms++[⟨s,e⟩]}
theorem spec_l15Here (sect:Nat) (a:Int) (h:sect≤9) (h0: -1000000≤a) (h1:a≤1000000):Con 300 [.int .i64 sect,.int .i64 a] (.agg (GExpr.ro (hereV sect a))) [none,none]:=by
 have c:=spec_l11Sum (.mk 11 sect ⟨#[]⟩ []) a (OkX.sect (h:=0) (by omega) (by omega)) h0 h1
 refine con Tryz.func300 ?_
 refine ⟨[.ro,.ro],.agg (GExpr.ro (hereV sect a)),[none,none],Contract.le (.cons (.agg (.cons (.refl _) (.cons (.refl _) (.cons (.refl _) (.cons (.nilr 4) (.refl _)))))) (.refl _)) c,trivial,?_⟩
 exact ⟨.refl _,trivial⟩
theorem spec_l15Define (p:PS) (s:ByteArray) (e:GExpr) (hp:p.syms.length≤1099511627):Con 299 [.pb (pRow p),.str s,.agg (GExpr.ro e)] (.tup []) [some (.pb (pRow (defV p s e))),none,none]:=by
 have c (S G:List (List AV)):=spec_l15SymR p.syms S G s (by omega)
 refine con Tryz.func299 ?_
 refine ⟨[.ro,.ro],.int .i64 (symAt p.syms s),[none,none],by rw[symR_ror];exact c _ _,⟨trivial,trivial⟩,fun h=>?_,fun h=>?_⟩
 ·rw[defV,if_pos (of_decide_eq_true h)]
  exact ⟨.refl _,.refl _,trivial⟩
 ·rw[defV,if_neg (of_decide_eq_false h)]
  refine ⟨trivial,(by show ((symRs p.syms).length+1)*72≤_;rw[symRs_len];omega),⟨⟨trivial,trivial,trivial,trivial,trivial,trivial⟩,trivial⟩,by kernel_rfl,?_⟩
  exact ⟨.refl _,.of_eq (congrArg AV.pb (by rw[pRow,←sym_cat];rfl)),trivial⟩
def setE (p:PS) (a:Int) (e:GExpr):GExpr:=putEV (hereV p.sect a) (p.syms.map GSym.name) (p.syms.map GSym.e) e
def setP (p:PS) (a:Int) (x:GLine) (e:GExpr):PS:=if (okE (setE p a e) 1 false&&cleanE (setE p a e))=true then defV p x.s (foldX (setE p a e)) else {p with code:=3}
theorem okx_fo {e:GExpr} (h:OkX 6 e):FO e:=⟨h.fit,h.ok⟩
theorem spec_l15Set (n:Nat) (p:PS) (hp:OkP n p) (hn:n≤1000000) (a:Int) (ha:p.ats[p.sect]?=some a) (x:GLine) (e:GExpr) (he:x.l=[e]) (fe:FO e):Con 301 [.pb (pRow p),.agg (GLine.ro x)] (.tup []) [some (.pb (pRow (setP p a x e))),none]:=by
 obtain ⟨h1,h2,h3,h4,h5,h6,h7,h8⟩:=hp
 have ha2:=h8 a (List.mem_of_getElem? ha)
 have cV (S G:List (List AV)):=spec_l15ValsM p.syms S G (by omega)
 have cH:=spec_l15Here p.sect a (by omega) (by omega) (by omega)
 have xH:=hereV_fo (sect:=p.sect) (a:=a) (by omega) (by omega) (by omega)
 have fS:FO (setE p a e):=putEV_fo (okx_fo xH) (fun v hv=>by obtain ⟨y,hy,rfl⟩:=List.mem_map.1 hv;exact okx_fo (h4 y hy)) fe
 have cP:=spec_Put e (hereV p.sect a) (p.syms.map GSym.name) (p.syms.map GSym.e) fe (okx_fo xH) (fun v hv=>by obtain ⟨y,hy,rfl⟩:=List.mem_map.1 hv;exact okx_fo (h4 y hy)) (by rw[List.length_map];omega) (by rw[List.length_map,List.length_map])
 have cO:=spec_ExprOk (setE p a e) fS.1 fS.2
 have cC:=spec_l15Clean (setE p a e) fS.1
 have cF:=spec_Fold (setE p a e) fS.1 fS.2
 have cD:=spec_l15Define p x.s (foldX (setE p a e)) (by omega)
 have hrow:(GInt.ows p.ats)[(p.sect:Int).toNat]?=some [AV.int .i64 a]:=by rw[Int.toNat_natCast];simp[ha];rfl
 have hlt:(p.sect:Int) < (GInt.ows p.ats).length:=by simp;omega
 have hx0:(GExpr.ros x.l)[0]?=some (GExpr.ro e):=by rw[he,GExpr.ros_eq];rfl
 rw[setP]
 refine conI [] (fun i=>bif Nat.beq i 2 then some (0,300) else none) (fun _=>false) Tryz.func301 (fun _ h=>by cases h) ?_
 refine ⟨[.muta [5,3,1]],.tup [.ow 1 (GString.ows (p.syms.map GSym.name)),.ow 4 (GExpr.ros (p.syms.map GSym.e))],[some (.agg [.ow 5 (symRs p.syms),.ow 3 (secRs p.sects),.ro 1 (GString.ros p.globs)])],cV _ _,trivial,?_⟩
 refine ⟨by decide,_,hx0,Int.natCast_nonneg _,hlt,_,hrow,?_⟩
 refine ⟨[.ro,.ro],.agg (GExpr.ro (hereV p.sect a)),[none,none],cH,trivial,?_⟩
 refine ⟨[.ro,.ro,.ro,.ro],.agg (GExpr.ow (setE p a e)),[none,none,none,none],by rw[GString.roo,GExpr.ror];exact cP,⟨⟨trivial,trivial,trivial,GExpr.noRo_ows _ fun x _=>GExpr.noRo_ow x,trivial⟩,trivial⟩,by kernel_rfl,?_⟩
 refine ⟨[.ro],.bool (okE (setE p a e) 1 false),[none],by rw[GExpr.roo];exact cO,⟨trivial,trivial⟩,fun h1=>⟨[.ro],.bool (cleanE (setE p a e)),[none],by rw[GExpr.roo];exact cC,⟨trivial,trivial⟩,fun h2=>?_,fun h2=>?_⟩,fun h1=>?_⟩
 all_goals simp only[Bool.not_eq_true',Bool.not_eq_false'] at h1
 ·simp only[Bool.not_eq_true'] at h2
  rw[if_neg (by rw[h2];simp)]
  exact ⟨.refl _,.refl _,trivial⟩
 ·simp only[Bool.not_eq_false'] at h2
  rw[if_pos (by rw[h1,h2];rfl)]
  refine ⟨[.frz],.agg (GExpr.ro (foldX (setE p a e))),[none],by rw[GExpr.roo];exact cF,trivial,?_⟩
  refine ⟨[.mut,.ro,.ro],.tup [],[some (.pb (pRow (defV p x.s (foldX (setE p a e))))),none,none],cD,trivial,by kernel_rfl,?_⟩
  exact ⟨.refl _,.refl _,trivial⟩
 ·rw[if_neg (by rw[h1];simp)]
  exact ⟨.refl _,.refl _,trivial⟩
def secAtI (l:List GSect) (s:ByteArray):Nat:=l.findIdx fun x=>decide (x.name=s)
def sectV (p:PS) (s:ByteArray) (o:Bool):PS:=
 match p.sects[secAtI p.sects s]? with
 | some y=>{p with sect:=secAtI p.sects s,code:=if y.over=o then p.code else 2}
 | none=>if 8≤p.sects.length then {p with code:=6} else {p with sects:=p.sects++[⟨s,o,[]⟩],ats:=p.ats++[0],sect:=p.sects.length}
theorem sec_cat (l:List GSect) (s:ByteArray) (o:Bool):SimRows (secRs l++[[.str s,.bool o,.nils]]) (secRs (l++[⟨s,o,[]⟩])):=by
 show SimRows (l.map secR++[[.str s,.bool o,.nils]]) ((l++[(⟨s,o,[]⟩:GSect)]).map secR)
 rw[List.map_append]
 exact (SimRows.refl _).append (.cons (.cons (.refl _) (.cons (.refl _) (.cons (.nil 4) (.refl _)))) (.refl _))
theorem spec_l15Sect (n:Nat) (p:PS) (hp:OkP n p) (s:ByteArray) (o:Bool):Con 302 [.pb (pRow p),.str s,.bool o] (.tup []) [some (.pb (pRow (sectV p s o))),none,none]:=by
 obtain ⟨h1,h2,h3,h4,h5,h6,h7,h8⟩:=hp
 have hlen:=secRs_len p.sects
 refine con Tryz.func302 ?_
 refine ⟨{i:Nat // i≤p.sects.length∧∀ j (h:j < p.sects.length),j < i→¬ p.sects[j].name=s},fun i=>⟨[(0,.ptr 0 0 0),(1,.str s),(2,.bool o),(6,.int .i64 i.1)],[(0,.box (pRow p) [])]⟩,fun i=>p.sects.length - i.1,⟨0,Nat.zero_le _,fun j h h2=>absurd h2 (Nat.not_lt_zero _)⟩,?_,?_⟩
 ·exact ⟨rfl,rfl,rfl,rfl,rfl,.refl _,trivial⟩
 ·rintro ⟨i,hi,hd⟩
  dsimp only
  have e1:IntKind.wrap .i64 ((i:Int)+1)=((i+1:Nat):Int):=w64 (by omega) (by omega)
  refine ⟨fun h=>?_,fun h=>?_⟩
  ·have h:=of_decide_eq_true h
   rw[hlen] at h
   have hi:i < p.sects.length:=by omega
   have hrow:(secRs p.sects)[i]?=some (secR p.sects[i]):=map_get _ _ hi
   refine ⟨Int.natCast_nonneg _,by rw[hlen];exact h,_,hrow,fun h2=>?_,fun h2=>?_⟩
   ·have e:secAtI p.sects s=i:=(List.findIdx_eq hi).2 ⟨by simpa using h2,fun j hj=>by simpa using hd j (by omega) hj⟩
    rw[sectV,e,List.getElem?_eq_getElem hi]
    dsimp only
    refine ⟨Int.natCast_nonneg _,by rw[hlen];exact h,_,hrow,fun h3=>?_,fun h3=>?_⟩
    ·have h3:¬ p.sects[i].over=o:=by simpa using h3
     rw[if_neg h3]
     exact ⟨.refl _,.refl _,trivial⟩
    ·have h3:p.sects[i].over=o:=by simpa using h3
     rw[if_pos h3]
     exact ⟨.refl _,.refl _,trivial⟩
   ·refine ⟨⟨i+1,hi,fun j hj h3=>?_⟩,Nat.sub_succ_lt_self _ _ hi,rfl,rfl,rfl,rfl,congrArg (AV.int .i64) e1,.refl _,trivial⟩
    rcases Nat.lt_succ_iff_lt_or_eq.1 h3 with h4 | h4
    ·exact hd j hj h4
    ·subst h4;exact of_decide_eq_false h2
  ·have h:=of_decide_eq_false h
   rw[hlen] at h
   have e:p.sects.length≤secAtI p.sects s:=Nat.le_of_not_lt fun g=>by
    have:=List.findIdx_getElem (w:=g)
    exact hd _ g (by omega) (of_decide_eq_true this)
   rw[sectV,List.getElem?_eq_none e]
   dsimp only
   refine ⟨fun h2=>?_,fun h2=>?_⟩
   ·have h2:=of_decide_eq_true h2
    rw[hlen] at h2
    rw[if_pos (by omega)]
    exact ⟨.refl _,.refl _,trivial⟩
   ·have h2:=of_decide_eq_false h2
    rw[hlen] at h2
    rw[if_neg (by omega)]
    refine ⟨trivial,(by show ((secRs p.sects).length+1)*48≤_;rw[hlen];omega),⟨⟨trivial,trivial,trivial,trivial⟩,trivial⟩,?_⟩
    refine ⟨trivial,(by show ((GInt.ows p.ats).length+1)*8≤_;simp;omega),⟨⟨trivial,trivial⟩,trivial⟩,?_⟩
    refine ⟨.refl _,.pb (.cons (.refl _) (.cons (.ow (sec_cat _ _ _)) (.cons (.refl _) (.cons (.of_eq ?_) (.cons (.of_eq ?_) (.refl _)))))),trivial⟩
    ·show AV.ow 1 (GInt.ows p.ats++[[AV.int .i64 0]])=AV.ow 1 (GInt.ows (p.ats++[0]))
     rw[GInt.ows_eq,GInt.ows_eq,List.map_append];rfl
    ·show AV.int .i64 (IntKind.wrap .i64 (((secRs p.sects++[[AV.str s,AV.bool o,AV.nils]]).length:Int) - 1))=AV.int .i64 (p.sects.length:Nat)
     rw[List.length_append,hlen,List.length_singleton,w64 (by omega) (by omega)]
     congr 1;omega
end Go.Proofs.VI
