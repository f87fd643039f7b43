/- Contracts of functions, and what they rest on: l11con. -/
import Derived.Test.YtjlonhiojgljcaaGreatF1
set_option linter.unusedVariables false
set_option linter.unusedSimpArgs false
set_option maxRecDepth 10000
set_option maxHeartbeats 4000000
namespace Go.Proofs.VI
open Go
theorem simNr (k n:Int) (s:ByteArray):Sim (.agg [.int .i64 k,.int .i64 n,.str s,.nils]) (.agg (GExpr.ro (.mk k n s []))):= .agg (.cons (.refl _) (.cons (.refl _) (.cons (.refl _) (.cons (.nilr 4) (.refl _)))))
theorem simLr (k n:Int) (s:ByteArray) (l:List GExpr):Sim (.agg [.int .i64 k,.int .i64 n,.str s,.ow 4 (l.map GExpr.ro)]) (.agg (GExpr.ro (.mk k n s l))):=by
 have h:=Sim.frz (.agg [.int .i64 k,.int .i64 n,.str s,.ow 4 (l.map GExpr.ro)])
 have e:toRoRows (l.map GExpr.ro)=GExpr.ros l:=by rw[←GExpr.ros_eq,GExpr.ror]
 simp only[toRo,toRoL,e] at h
 exact h
theorem simT (k n:Int) (s:ByteArray) (a b:GExpr):Sim (.agg [.int .i64 k,.int .i64 n,.str s,.ow 4 [GExpr.ro a,GExpr.ro b]]) (.agg (GExpr.ro (.mk k n s [a,b]))):=simLr k n s [a,b]
theorem simOwRo (e:GExpr):Sim (.agg (GExpr.ow e)) (.agg (GExpr.ro e)):=by
 have h:=Sim.frz (.agg (GExpr.ow e))
 simp only[toRo,GExpr.toRo_ow] at h
 exact h
def gI (x:Option Int):AV:=match x with | some n=> .tup [.int .i64 n,.bool true] | none=> .tup [.int .i64 0,.bool false]
theorem spec_l10Num (n:Int):Con 181 [.int .i64 n] (.agg (GExpr.ro (numE n))) [none]:=by
 refine con Tryz.func181 ?_
 exact ⟨[.ro],.int .i64 (wr16 n),[none],spec_Wrap n,trivial,simNr _ _ _,trivial⟩
theorem spec_l11Two (k a b:Int):Con 270 [.int .i64 k,.int .i64 a,.int .i64 b] (gI (compE k a b)) [none,none,none]:=by
 refine con Tryz.func270 ?_
 by_cases hb:b=0
 ·repeat' (first | refine And.intro (fun (h:_=true)=>?_) (fun (h:_=false)=>?_) | refine And.intro (fun (h:_=false)=>?_) (fun (h:_=true)=>?_) | refine And.intro (show regOk _ _=true from by kernel_rfl) ?_ | refine And.intro (Sim.nb ?_) trivial | refine ⟨[.ro],.int .i64 _,[none],spec_Wrap _,(by first | exact trivial | exact ⟨trivial,trivial⟩ | exact ⟨GByte.nro _,trivial⟩ | exact ⟨GExpr.noRo_ow _,trivial⟩ | exact ⟨GExpr.nro _,trivial⟩ | exact ⟨GInt.nro _,trivial⟩ | exact ⟨GString.nro _,trivial⟩),?_⟩ | fail)
  all_goals simp_all[compE,gI,nb,nbAs,nbA,nbC,tuple,wr16_wrap]
 ·repeat' (first | refine And.intro (fun (h:_=true)=>?_) (fun (h:_=false)=>?_) | refine And.intro (fun (h:_=false)=>?_) (fun (h:_=true)=>?_) | refine And.intro (show regOk _ _=true from by kernel_rfl) ?_ | refine And.intro (Sim.nb ?_) trivial | refine ⟨[.ro],.int .i64 _,[none],spec_Wrap _,(by first | exact trivial | exact ⟨trivial,trivial⟩ | exact ⟨GByte.nro _,trivial⟩ | exact ⟨GExpr.noRo_ow _,trivial⟩ | exact ⟨GExpr.nro _,trivial⟩ | exact ⟨GInt.nro _,trivial⟩ | exact ⟨GString.nro _,trivial⟩),?_⟩ | refine ⟨hb,?_⟩ | fail)
  all_goals simp_all[compE,gI,nb,nbAs,nbA,nbC,tuple,wr16_wrap]
theorem spec_l11Part {h:Nat} (e:GExpr) (x:OkX h e):Con 296 [.agg (GExpr.ro e)] (.tup [.agg (GExpr.ro (partE e).1),.int .i64 (partE e).2]) [none]:=by
 refine con Tryz.func296 ?_
 rcases part_cases x with ⟨m,a,n,rfl,rfl,_,_,hx,hp⟩ | ⟨hp,hk | ⟨a,b,rfl,hb⟩⟩
 ·rw[hp]
  have r0:(GExpr.ros [a,.mk 1 n ⟨#[]⟩ []])[0]?=some (GExpr.ro a):=ros_get [a,.mk 1 n ⟨#[]⟩ []] 0 (by simp)
  have r1:(GExpr.ros [a,.mk 1 n ⟨#[]⟩ []])[1]?=some (GExpr.ro (.mk 1 n ⟨#[]⟩ [])):=ros_get [a,.mk 1 n ⟨#[]⟩ []] 1 (by simp)
  repeat' (first | refine And.intro (fun (h:_=true)=>?_) (fun (h:_=false)=>?_) | refine And.intro (fun (h:_=false)=>?_) (fun (h:_=true)=>?_) | refine And.intro (show regOk _ _=true from by kernel_rfl) ?_ | refine And.intro (Sim.of_eq ?_) trivial | refine ⟨Int.le_refl 0,_,r0,?_⟩ | refine ⟨(show (0:Int)≤1 from by decide),_,r1,?_⟩ | fail)
  all_goals first | rfl | (exfalso;simp_all[k_mk];done)
 ·rw[hp]
  repeat' (first | refine And.intro (fun (h:_=true)=>?_) (fun (h:_=false)=>?_) | refine And.intro (fun (h:_=false)=>?_) (fun (h:_=true)=>?_) | refine And.intro (show regOk _ _=true from by kernel_rfl) ?_ | refine And.intro (Sim.of_eq ?_) trivial | fail)
  all_goals first | rfl | (exfalso;simp_all[k_mk];done)
 ·rw[hp]
  have r1:(GExpr.ros [a,b])[1]?=some (GExpr.ro (b)):=ros_get [a,b] 1 (by simp)
  repeat' (first | refine And.intro (fun (h:_=true)=>?_) (fun (h:_=false)=>?_) | refine And.intro (fun (h:_=false)=>?_) (fun (h:_=true)=>?_) | refine And.intro (show regOk _ _=true from by kernel_rfl) ?_ | refine And.intro (Sim.of_eq ?_) trivial | refine ⟨(show (0:Int)≤1 from by decide),_,r1,?_⟩ | fail)
  all_goals first | rfl | (exfalso;simp_all[k_mk];done)
theorem spec_l11Add (e:GExpr) (n:Int):Con 297 [.agg (GExpr.ro e),.int .i64 n] (.agg (GExpr.ro (addE e n))) [none,none]:=by
 refine con Tryz.func297 ?_
 rw[addE]
 refine ⟨[.ro],.int .i64 (wr16 n),[none],spec_Wrap n,trivial,fun h=>?_,fun h=>?_⟩<;>simp only[decide_eq_true_eq,decide_eq_false_iff_not] at h
 ·rw[if_pos h];exact ⟨.refl _,trivial⟩
 ·rw[if_neg h]
  refine ⟨[.ro],.agg (GExpr.ro (numE n)),[none],spec_l10Num n,trivial,by kernel_rfl,simT 5 0 _ e (numE n),trivial⟩
theorem spec_l11Sum {h:Nat} (e:GExpr) (n:Int) (x:OkX h e) (h0: -1000000≤n) (h1:n≤1000000):Con 279 [.agg (GExpr.ro e),.int .i64 n] (.agg (GExpr.ro (sumE e n))) [none,none]:=by
 refine con Tryz.func279 ?_
 have hb:0≤(partE e).2∧(partE e).2≤65535:=by
  rcases part_cases x with ⟨m,a,n,_,_,g0,g1,hx,hp⟩ | ⟨hp,_⟩<;>rw[hp]
  ·exact ⟨g0,g1⟩
  ·simp
 have e1:IntKind.wrap .i64 ((partE e).2+n)=(partE e).2+n:=w64 (by omega) (by omega)
 refine ⟨[.ro],.tup [.agg (GExpr.ro (partE e).1),.int .i64 (partE e).2],[none],spec_l11Part e x,trivial,?_⟩
 exact ⟨[.ro,.ro],.agg (GExpr.ro (sumE e n)),[none,none],by rw[e1];exact spec_l11Add _ _,trivial,.refl _,trivial⟩
theorem OkX.num_in {h:Nat} {e:GExpr} (x:OkX h e) (hk:e.k=1):0≤e.n∧e.n≤65535:=by
 cases x with
 | num h0 h1=>exact ⟨h0,h1⟩
 | name hk' _=>rcases hk' with rfl | rfl<;>simp[GExpr.k] at hk
 | two h0 h1 _ _=>simp only[GExpr.k] at hk;omega
 | _=>simp[GExpr.k] at hk
theorem partE_in {h:Nat} {e:GExpr} (x:OkX h e):0≤(partE e).2∧(partE e).2≤65535:=by
 rcases part_cases x with ⟨m,a,n,_,_,g0,g1,hx,hp⟩ | ⟨hp,_⟩<;>rw[hp]
 ·exact ⟨g0,g1⟩
 ·simp
theorem spec_l11Sub {h:Nat} (a b:GExpr) (xa:OkX h a) (xb:OkX h b):Con 278 [.agg (GExpr.ro a),.agg (GExpr.ro b)] (.agg (GExpr.ro (subE a b))) [none,none]:=by
 refine con Tryz.func278 ?_
 have pa:=partE_in xa
 have pb:=partE_in xb
 have e1:IntKind.wrap .i64 ((partE a).2 - (partE b).2)=(partE a).2 - (partE b).2:=w64 (by omega) (by omega)
 rw[subE]
 refine ⟨fun h=>?_,fun h=>?_⟩<;>simp only[decide_eq_true_eq,decide_eq_false_iff_not] at h
 ·have hn:=xb.num_in h
  have e2:IntKind.wrap .i64 (-b.n)= -b.n:=w64 (by omega) (by omega)
  rw[if_pos h]
  exact ⟨[.ro,.ro],.agg (GExpr.ro (sumE a (-b.n))),[none,none],by rw[e2];exact spec_l11Sum a _ xa (by omega) (by omega),trivial,.refl _,trivial⟩
 ·rw[if_neg h]
  clear h
  have ca:=spec_l11Part a xa
  have cb:=spec_l11Part b xb
  generalize partE a=A at*
  generalize partE b=B at*
  repeat' (first | refine And.intro (fun (h:_=true)=>?_) (fun (h:_=false)=>?_) | refine And.intro (fun (h:_=false)=>?_) (fun (h:_=true)=>?_) | refine And.intro (show regOk _ _=true from by kernel_rfl) ?_ | refine ⟨[.ro],.tup [.agg _,.int .i64 _],[none],ca,trivial,?_⟩ | refine ⟨[.ro],.tup [.agg _,.int .i64 _],[none],cb,trivial,?_⟩ | refine ⟨[.ro],.agg (GExpr.ro (numE (A.2 - B.2))),[none],(by rw[e1];exact spec_l10Num _),trivial,?_⟩ | fail)
  all_goals clear ca cb
  all_goals simp only[decide_eq_true_eq,decide_eq_false_iff_not] at*
  all_goals first | (rw[if_neg (by simp_all)];exact ⟨simT 6 0 _ a b,trivial⟩) | (rw[if_pos (by simp_all)];exact ⟨.refl _,trivial⟩)
theorem spec_l11Copy:∀ (a:GExpr) (fa:GExpr.fit a),Con 184 [.agg (GExpr.ro a)] (.agg (GExpr.ow a)) [none]:=by
 refine GExpr.ind fun a ih fa=>?_
 have ua:=GExpr.fit_un fa
 have la:=ros_len a.l
 refine con Tryz.func184 ?_
 refine ⟨{i:Nat // i≤a.l.length},fun i=>⟨[(1,.ptr 0 0 0),(2,.ptr 1 0 0),(3,.ptr 2 0 0),(4,.int .i64 i.1)],[(0,.box (GExpr.ro a) []),(1,.box [.int .i64 0,.int .i64 0,.str ⟨#[]⟩,.nils] []),(2,.box [.int .i64 a.k,.int .i64 a.n,.str a.s,.ow 4 (GExpr.ows (a.l.take i.1))] [])]⟩,fun i=>a.l.length - i.1,⟨0,by omega⟩,?_,?_⟩
 ·exact ⟨rfl,rfl,rfl,rfl,rfl,rfl,rfl,.refl _,.refl _,.cons (.cons (.refl _) (.cons (.refl _) (.cons (.refl _) (.cons (.nil 4) (.refl _))))) (.refl _),trivial⟩
 ·rintro ⟨i,hi⟩
  dsimp only
  refine ⟨fun h=>?_,fun h=>?_⟩<;>simp only[la,decide_eq_true_eq,decide_eq_false_iff_not] at h
  ·have hi:i < a.l.length:=by omega
   refine ⟨Int.natCast_nonneg _,_,ros_get _ _ hi,[.ro],.agg (GExpr.ow a.l[i]),[none],ih _ (List.getElem_mem hi) (ua.2 _ (List.getElem_mem hi)),trivial,trivial,?_,⟨⟨trivial,trivial,trivial,trivial,trivial⟩,trivial⟩,?_⟩
   ·show ((GExpr.ows (a.l.take i)).length+1)*56≤_
    rw[ows_len,List.length_take];omega
   refine ⟨⟨i+1,by omega⟩,by dsimp only;omega,rfl,rfl,rfl,rfl,rfl,rfl,congrArg (AV.int .i64) (w64 (by omega) (by omega)),.refl _,.refl _,.of_eq ?_,trivial⟩
   have e:a.l.take (i+1)=a.l.take i++[a.l[i]]:=by rw[List.take_add_one,List.getElem?_eq_getElem hi];rfl
   show _=[[AV.int .i64 a.k,.int .i64 a.n,.str a.s,.ow 4 (GExpr.ows (a.l.take (i+1)))]]
   rw[e]
   exact congrArg (fun z=>[[AV.int .i64 a.k,.int .i64 a.n,.str a.s,.ow 4 z]]) (snoc_row (a.l.take i) a.l[i])
  ·refine ⟨.of_eq ?_,trivial⟩
   show AV.agg [.int .i64 a.k,.int .i64 a.n,.str a.s,.ow 4 (GExpr.ows (a.l.take i))]=_
   rw[List.take_of_length_le (by omega)];rfl
end Go.Proofs.VI
