/- Contracts of functions, and what they rest on: l16lw. -/
import Derived.Test.YtjlonhiojgljcaaGreatS9
set_option linter.unusedVariables false
set_option linter.unusedSimpArgs false
set_option maxRecDepth 10000
set_option maxHeartbeats 4000000
namespace Go.Proofs.VI
open Go
theorem putA_snoc {t:TA} {sect:Nat} {p:Int} (e:GExpr):∀ (l:List GExpr),putA t sect p (l++[e])=(match putA t sect p l with | none=>none | some m=>(match put16 t sect p e with | none=>none | some x=>some (m++[x])))
 | []=>by
  simp only[List.nil_append,putA]
  cases put16 t sect p e<;>rfl
 | y::l=>by
  rw[List.cons_append,putA,putA_snoc e l,putA]
  cases put16 t sect p y with
  | none=>rfl
  | some z=>
   dsimp only
   cases putA t sect p l with
   | none=>rfl
   | some m=>
    dsimp only[Option.map]
    cases put16 t sect p e<;>rfl
theorem putA_none {t:TA} {sect:Nat} {p:Int} {e:GExpr} (h:put16 t sect p e=none):∀ {l:List GExpr},e∈l→putA t sect p l=none
 | y::l,he=>by
  rw[putA]
  rcases List.mem_cons.1 he with g | g
  ·rw[←g,h]
  ·cases put16 t sect p y with
   | none=>rfl
   | some z=>dsimp only;rw[putA_none h g];rfl
def endV (s:List GExpr×Int):List GExpr×Int:=if s.2≠0 then ([],s.2) else (s.1,0)
theorem lwV_lin {t:TA} {sect p:Int} {x:GLine} (hx:lineE x=true) (h0:inI sect 0 9=true) (h1:inI p 0 65535=true):lwV t sect p x=endV (linW t sect.toNat p x):=by
 rw[lwV,if_neg (by rw[hx,h0,h1];decide),endV]
theorem spec_LineWords (t:TA) (ht:TAok t) (sect p:Int) (x:GLine) (hx:GLine.fit x) (ox:GLine.ok x):Con 282 [.agg (GLine.ro x),.agg (taR t),.int .i64 sect,.int .i64 p] (.tup [.ow 4 (GExpr.ros (lwV t sect p x).1),.int .i64 (lwV t sect p x).2]) [none,none,none,none]:=by
 have cL:=spec_LineOk x hx ox
 have fx:=GLine.fit_un hx
 have gx:=GLine.ok_un ox
 have fl:∀ e∈x.l,FO e:=fun e he=>⟨fx.2.2.2 e he,gx.2.2.2.2.2.2.2 e he⟩
 have hll:=ros_len x.l
 have bad (h:(lineE x&&(inI sect 0 9&&inI p 0 65535))=false):lwV t sect p x=([],1):=by rw[lwV,if_pos h]
 refine conI [] (fun i=>bif Nat.beq i 15||Nat.beq i 20 then some (11,323) else none) (fun i=>Nat.beq i 21) Tryz.func282 (fun _ h=>by cases h) ?_
 by_cases hg:lineE x=true∧inI sect 0 9=true∧inI p 0 65535=true
 case neg=>
  rw[bad (by
   cases q1:lineE x
   ·rfl
   ·cases q2:inI sect 0 9
    ·rfl
    ·cases q3:inI p 0 65535
     ·rfl
     ·exact absurd ⟨q1,q2,q3⟩ hg)]
  apply join (R:=True)
  ·intro _
   refine ⟨[.ro],.bool (lineE x),[none],cL,trivial,fun h1=>⟨[.ro,.ro,.ro],.bool (inI sect 0 9),[none,none,none],spec_l1In _ _ _,trivial,fun h2=>⟨[.ro,.ro,.ro],.bool (inI p 0 65535),[none,none,none],spec_l1In _ _ _,trivial,fun h3=>?_,fun h3=>?_⟩,fun h2=>?_⟩,fun h1=>?_⟩
   ·exact ⟨.refl _,trivial⟩
   ·exact absurd ⟨by simpa using h1,by simpa using h2,by simpa using h3⟩ hg
   ·exact ⟨.refl _,trivial⟩
   ·exact ⟨.refl _,trivial⟩
  ·trivial
 obtain ⟨hE,h2,h3⟩:=hg
 have e9:=lwV_lin (t:=t) hE h2 h3
 have g2:=inI_true.1 h2
 have g3:=inI_true.1 h3
 obtain ⟨sc,rfl⟩:∃ sc:Nat,sect=sc:=⟨sect.toNat,by have:=g2.1;omega⟩
 have hs9:sc≤9:=by have:=g2.2;omega
 rw[Int.toNat_natCast] at e9
 have hl6:=lineE_len hE
 have hW:=words_in x (by omega)
 have cW:=spec_WordsOf x hx ox
 have cI (hk:x.k=3):=spec_l16Ins t ht sc p x hk hE fl ⟨fx.1,gx.2.2.2.1.2.2⟩ ⟨fx.2.1,gx.2.2.2.2.1.2.2⟩ hs9 g3.1 g3.2
 apply join
 ·intro J
  refine ⟨[.ro],.bool (lineE x),[none],cL,trivial,fun h1=>⟨[.ro,.ro,.ro],.bool (inI (sc:Int) 0 9),[none,none,none],spec_l1In _ _ _,trivial,fun h4=>⟨[.ro,.ro,.ro],.bool (inI p 0 65535),[none,none,none],spec_l1In _ _ _,trivial,fun h5=>?a,fun h5=>?b⟩,fun h4=>?c⟩,fun h1=>?d⟩
  case a=>rw[h3] at h5;cases h5
  case c=>rw[h2] at h4;cases h4
  case d=>rw[hE] at h1;cases h1
  refine ⟨fun k3=>?ka,fun k3=>⟨fun k4=>?kb,fun k4=>⟨fun k5=>?kc,fun k5=>?kd⟩⟩⟩
  case ka=>
   refine ⟨[.mut,.ro],.tup [],[some (.pb (lwR t sc p (insW t sc p x))),none],cI (of_decide_eq_true k3),trivial,?_⟩
   refine ⟨{s:List GExpr×Int // lwV t sc p x=endV s},fun s=>⟨[(10,.own 0),(11,.ptr 1 0 0)],[(0,.rows 4 [] []),(1,.box (lwR t sc p s.1) [])]⟩,⟨insW t sc p x,?_⟩,⟨rfl,rfl,rfl,.refl _,.refl _,trivial⟩,J⟩
   rw[e9,linW,if_pos (of_decide_eq_true k3)]
  case kd=>
   refine ⟨{s:List GExpr×Int // lwV t sc p x=endV s},fun s=>⟨[(10,.own 0),(11,.ptr 1 0 0)],[(0,.rows 4 [] []),(1,.box (lwR t sc p s.1) [])]⟩,⟨([],0),?_⟩,⟨rfl,rfl,rfl,.refl _,.refl _,trivial⟩,J⟩
   rw[e9,linW,if_neg (of_decide_eq_false k3),if_neg (of_decide_eq_false k4),if_neg (of_decide_eq_false k5)]
  case kb=>
   have h4:=of_decide_eq_true k4
   refine ⟨{q:Nat×List GExpr×Int // q.1≤x.l.length∧q.2.1.length≤q.1∧((q.2.2=0∧putA t sc p (x.l.take q.1)=some q.2.1)∨(q.2.2=3∧putA t sc p x.l=none))},fun q=>⟨[(2,.int .i64 sc),(3,.int .i64 p),(4,.ptr 0 0 0),(5,.ptr 1 0 0),(10,.own 2),(11,.ptr 4 0 0),(12,.int .i64 q.1.1)],[(0,.box (GLine.ro x) []),(1,.box (taR t) []),(2,.rows 4 [] []),(4,.box (lwR t sc p q.1.2) [])]⟩,fun q=>x.l.length - q.1.1,⟨(0,[],0),Nat.zero_le _,Nat.zero_le _,.inl ⟨rfl,rfl⟩⟩,?_,?_⟩
   ·exact ⟨rfl,rfl,rfl,rfl,rfl,rfl,rfl,rfl,rfl,.refl _,.refl _,rfl,.refl _,.refl _,trivial⟩
   ·rintro ⟨⟨i,ws,c⟩,hi,hw,hq⟩
    dsimp only at hi hw hq⊢
    have fin:c≠0∨i=x.l.length→lwV t sc p x=endV (ws,c):=fun h=>by
     rw[e9,linW,if_neg (of_decide_eq_false k3),if_pos h4]
     rcases hq with ⟨q1,q2⟩ | ⟨q1,q2⟩
     ·have hi2:i=x.l.length:=h.resolve_left (fun g=>g q1)
      rw[hi2,List.take_length] at q2
      rw[q2,q1]
     ·rw[q2,q1];rfl
    refine ⟨fun g1=>⟨fun g4=>?xa,fun g4=>?xb⟩,fun g1=>?xc⟩
    case xc=>
     refine ⟨{s:List GExpr×Int // lwV t sc p x=endV s},fun s=>⟨[(10,.own 0),(11,.ptr 1 0 0)],[(0,.rows 4 [] []),(1,.box (lwR t sc p s.1) [])]⟩,⟨(ws,c),?_⟩,⟨rfl,rfl,rfl,.refl _,.refl _,trivial⟩,J⟩
     have g1:=of_decide_eq_false g1
     rw[hll] at g1
     exact fin (.inr (by omega))
    case xb=>
     refine ⟨{s:List GExpr×Int // lwV t sc p x=endV s},fun s=>⟨[(10,.own 0),(11,.ptr 1 0 0)],[(0,.rows 4 [] []),(1,.box (lwR t sc p s.1) [])]⟩,⟨(ws,c),?_⟩,⟨rfl,rfl,rfl,.refl _,.refl _,trivial⟩,J⟩
     exact fin (.inl (of_decide_eq_false g4))
    case xa=>
     have g1:=of_decide_eq_true g1
     rw[hll] at g1
     have hi2:i < x.l.length:=by omega
     have g4:=of_decide_eq_true g4
     have hq:putA t sc p (x.l.take i)=some ws:=by
      rcases hq with ⟨q1,q2⟩ | ⟨q1,q2⟩
      ·exact q2
      ·omega
     have hsn:putA t sc p (x.l.take (i+1))=(match put16 t sc p x.l[i] with | none=>none | some z=>some (ws++[z])):=by
      rw[List.take_succ,List.getElem?_eq_getElem hi2]
      show putA t sc p (x.l.take i++[x.l[i]])=_
      rw[putA_snoc,hq]
     have e1:IntKind.wrap .i64 ((i:Int)+1)=((i+1:Nat):Int):=w64 (by omega) (by omega)
     have cP:=spec_l16Put t ht sc p x.l[i] (fl _ (List.getElem_mem hi2)) hs9 g3.1 g3.2
     have lws:=ros_len ws
     have hb:((GExpr.ros ws).length+1)*56≤140737488355328:=by rw[lws];omega
     refine ⟨Int.natCast_nonneg _,_,ros_get _ _ hi2,?_⟩
     rcases hput:put16 t sc p x.l[i] with _ | z<;>rw[hput] at cP hsn
     ·refine ⟨[.ro,.ro,.ro,.ro],.tup [.agg (GExpr.ro zExpr),.bool false],[none,none,none,none],cP,trivial,by kernel_rfl,?_⟩
      refine ⟨fun g=>?_,fun g=>(by cases g)⟩
      refine ⟨trivial,hb,⟨⟨trivial,trivial,trivial,trivial,trivial⟩,trivial⟩,Int.natCast_nonneg _,by rw[List.length_append,List.length_singleton];omega,_,app_at _ _,by kernel_rfl,?_⟩
      refine ⟨⟨(i+1,ws++[zExpr],3),hi2,by dsimp only;rw[List.length_append,List.length_singleton];omega,.inr ⟨rfl,putA_none hput (List.getElem_mem hi2)⟩⟩,Nat.sub_succ_lt_self _ _ hi2,rfl,rfl,rfl,rfl,rfl,rfl,rfl,rfl,congrArg (AV.int .i64) e1,.refl _,.refl _,rfl,.refl _,.of_eq ?_,trivial⟩
      rw[app_set]
      exact congrArg (fun z=>[[AV.ro 5 (symRs t.syms),AV.ifc,AV.ro 1 (GString.ros t.globs),AV.int .i64 sc,AV.int .i64 p,AV.ow 4 z,AV.int .i64 3]]) (row_cat ws zExpr)
     ·refine ⟨[.ro,.ro,.ro,.ro],.tup [.agg (GExpr.ro z),.bool true],[none,none,none,none],cP,trivial,by kernel_rfl,?_⟩
      refine ⟨fun g=>(by cases g),fun g=>?_⟩
      refine ⟨trivial,hb,⟨⟨trivial,trivial,trivial,trivial,trivial⟩,trivial⟩,Int.natCast_nonneg _,by rw[List.length_append,List.length_singleton];omega,_,app_at _ _,by kernel_rfl,?_⟩
      refine ⟨⟨(i+1,ws++[z],c),hi2,by dsimp only;rw[List.length_append,List.length_singleton];omega,.inl ⟨g4,hsn⟩⟩,Nat.sub_succ_lt_self _ _ hi2,rfl,rfl,rfl,rfl,rfl,rfl,rfl,rfl,congrArg (AV.int .i64) e1,.refl _,.refl _,rfl,.refl _,.of_eq ?_,trivial⟩
      rw[app_set]
      exact congrArg (fun z=>[[AV.ro 5 (symRs t.syms),AV.ifc,AV.ro 1 (GString.ros t.globs),AV.int .i64 sc,AV.int .i64 p,AV.ow 4 z,AV.int .i64 c]]) (row_cat ws z)
  case kc=>
   have h5:=of_decide_eq_true k5
   refine ⟨{i:Nat // (i:Int)≤wordsOf x∧i≤256},fun i=>⟨[(2,.int .i64 sc),(3,.int .i64 p),(4,.ptr 0 0 0),(5,.ptr 1 0 0),(10,.own 2),(11,.ptr 4 0 0),(15,.int .i64 i.1)],[(0,.box (GLine.ro x) []),(1,.box (taR t) []),(2,.rows 4 [] []),(4,.box (lwR t sc p (List.replicate i.1 (numE 0),0)) [])]⟩,fun i=>256 - i.1,⟨0,by have:=hW.1;omega,by decide⟩,?_,?_⟩
   ·exact ⟨rfl,rfl,rfl,rfl,rfl,rfl,rfl,rfl,rfl,.refl _,.refl _,rfl,.refl _,.refl _,trivial⟩
   ·rintro ⟨i,hi,h256⟩
    dsimp only
    have fin:(i:Int)=wordsOf x∨i=256→lwV t sc p x=endV (List.replicate i (numE 0),0):=fun h=>by
     rw[e9,linW,if_neg (of_decide_eq_false k3),if_neg (of_decide_eq_false k4),if_pos h5]
     rw[show min (wordsOf x).toNat 256=i by omega]
    refine ⟨[.ro],.int .i64 (wordsOf x),[none],cW,trivial,fun g1=>⟨fun g4=>?xa,fun g4=>?xb⟩,fun g1=>?xc⟩
    case xc=>
     refine ⟨{s:List GExpr×Int // lwV t sc p x=endV s},fun s=>⟨[(10,.own 0),(11,.ptr 1 0 0)],[(0,.rows 4 [] []),(1,.box (lwR t sc p s.1) [])]⟩,⟨(List.replicate i (numE 0),0),?_⟩,⟨rfl,rfl,rfl,.refl _,.refl _,trivial⟩,J⟩
     have g1:=of_decide_eq_false g1
     exact fin (.inl (by omega))
    case xb=>
     refine ⟨{s:List GExpr×Int // lwV t sc p x=endV s},fun s=>⟨[(10,.own 0),(11,.ptr 1 0 0)],[(0,.rows 4 [] []),(1,.box (lwR t sc p s.1) [])]⟩,⟨(List.replicate i (numE 0),0),?_⟩,⟨rfl,rfl,rfl,.refl _,.refl _,trivial⟩,J⟩
     have g4:=of_decide_eq_false g4
     exact fin (.inr (by omega))
    case xa=>
     have g1:=of_decide_eq_true g1
     have g4:=of_decide_eq_true g4
     have e1:IntKind.wrap .i64 ((i:Int)+1)=((i+1:Nat):Int):=w64 (by omega) (by omega)
     have lws:=ros_len (List.replicate i (numE 0))
     have hb:((GExpr.ros (List.replicate i (numE 0))).length+1)*56≤140737488355328:=by rw[lws,List.length_replicate];omega
     refine ⟨[.ro],.agg (GExpr.ro (numE 0)),[none],spec_l10Num _,trivial,?_⟩
     refine ⟨trivial,hb,⟨⟨trivial,trivial,trivial,trivial,trivial⟩,trivial⟩,Int.natCast_nonneg _,by rw[List.length_append,List.length_singleton];omega,_,app_at _ _,by kernel_rfl,?_⟩
     refine ⟨⟨i+1,by omega,by omega⟩,by dsimp only;omega,rfl,rfl,rfl,rfl,rfl,rfl,rfl,rfl,congrArg (AV.int .i64) e1,.refl _,.refl _,rfl,.refl _,.of_eq ?_,trivial⟩
     rw[app_set]
     exact congrArg (fun z=>[[AV.ro 5 (symRs t.syms),AV.ifc,AV.ro 1 (GString.ros t.globs),AV.int .i64 sc,AV.int .i64 p,AV.ow 4 z,AV.int .i64 0]]) ((row_cat _ _).trans (by rw[List.replicate_succ']))
 ·rintro ⟨s,hs⟩
  dsimp only
  rw[hs,endV]
  refine ⟨fun h=>?_,fun h=>?_⟩
  ·rw[if_pos (of_decide_eq_true h)]
   exact ⟨by kernel_rfl,.refl _,trivial⟩
  ·rw[if_neg (of_decide_eq_false h)]
   exact ⟨.refl _,trivial⟩
end Go.Proofs.VI
