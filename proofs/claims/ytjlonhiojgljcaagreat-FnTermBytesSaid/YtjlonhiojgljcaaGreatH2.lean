/- Contracts of functions, and what they rest on: l11worth. -/
import Derived.Test.YtjlonhiojgljcaaGreatF3
set_option linter.unusedVariables false
set_option linter.unusedSimpArgs false
set_option maxRecDepth 10000
set_option maxHeartbeats 4000000
namespace Go.Proofs.VI
open Go
inductive NF:GExpr→Prop
 | leaf {k n:Int} {s:ByteArray}:foldE (.mk k n s [])= .mk k n s []→NF (.mk k n s [])
 | neg {a:GExpr}:NF a→a.k≠1→NF (.mk 4 0 ⟨#[]⟩ [a])
 | two {k:Int} {a b:GExpr}:NF a→NF b→ftwoE k a b=twoE k a b→NF (twoE k a b)
theorem NF.same {e:GExpr} (x:NF e):foldE e=e:=by
 induction x with
 | leaf h=>exact h
 | @neg a ha hk ih=>
  show (if (foldE a).k=1 then numE (-(foldE a).n) else .mk 4 0 ⟨#[]⟩ [foldE a])=_
  rw[ih,if_neg hk]
 | @two k a b ha hb h iha ihb=>
  show ftwoE k (foldE a) (foldE b)=_
  rw[iha,ihb,h]
theorem NF.num (n:Int):NF (numE n):= .leaf rfl
theorem NF.part {h:Nat} {e:GExpr} (x:NF e) (o:OkX h e):NF (partE e).1:=by
 rcases part_cases o with ⟨m,a,n,_,he,_,_,_,hp⟩ | ⟨hp,_⟩
 ·rw[hp]
  subst he
  cases x with
  | two ha hb _=>exact ha
 ·rw[hp];exact x
theorem NF.sum {h:Nat} {a:GExpr} (n:Int) (x:NF a) (o:OkX h a) (hk:a.k≠1) (f:flatA a):NF (sumE a n):=by
 have xp:=x.part o
 obtain ⟨f1,f2,f3⟩:=f
 have hk1:(partE a).1.k≠1:=fun e=>hk (f3 e)
 rw[sumE,addE]
 split
 ·exact xp
 ·rename_i hw
  refine .two xp (.num _) ?_
  have e1:(numE ((partE a).2+n)).k=1:=rfl
  have e2:(numE ((partE a).2+n)).n=wr16 ((partE a).2+n):=rfl
  rw[ftwoE,if_neg (fun h=>hk1 h.1),pairE,if_neg (by decide),if_neg (fun h=>hk1 h.2),if_pos ⟨rfl,e1⟩,e2,sumE,addE,f1,f2,Int.zero_add,wr16_idem,if_neg hw,numE_wr]
theorem NF.sub {h h':Nat} {a b:GExpr} (x:NF a) (y:NF b) (o:OkX h a) (ob:OkX h' b) (hk:¬ (a.k=1∧b.k=1)) (f:flatA a):NF (subE a b):=by
 by_cases hb:b.k=1
 ·rw[subE,if_pos hb]
  exact x.sum _ o (fun e=>hk ⟨e,hb⟩) f
 ·by_cases hs:(partE a).1.k=11∧(partE b).1.k=11∧(partE a).1.n=(partE b).1.n
  ·rw[subE,if_neg hb,if_pos hs];exact .num _
  ·rw[subE,if_neg hb,if_neg hs]
   refine .two x y ?_
   rw[ftwoE,if_neg hk,pairE,if_pos rfl,subE,if_neg hb,if_neg hs]
theorem NF.pair {h h':Nat} {k:Int} {a b:GExpr} (x:NF a) (y:NF b) (o:OkX h a) (ob:OkX h' b) (hk:a.k=1∧b.k=1→compE k a.n b.n=none) (f:flatA a) (g:flatA b):NF (pairE k a b):=by
 have c5:a.k=1∧b.k=1→k≠5∧k≠6:=fun z=>⟨fun e=>by subst e;have:=hk z;simp[compE] at this,fun e=>by subst e;have:=hk z;simp[compE] at this⟩
 have e0:ftwoE k a b=pairE k a b:=by
  by_cases z:a.k=1∧b.k=1
  ·rw[ftwoE,if_pos z,hk z]
  ·rw[ftwoE,if_neg z]
 by_cases k6:k=6
 ·rw[pairE,if_pos k6]
  exact x.sub y o ob (fun z=>(c5 z).2 k6) f
 ·by_cases ka:k=5∧a.k=1
  ·rw[pairE,if_neg k6,if_pos ka]
   exact y.sum _ ob (fun e=>(c5 ⟨ka.2,e⟩).1 ka.1) g
  ·by_cases kb:k=5∧b.k=1
   ·rw[pairE,if_neg k6,if_neg ka,if_pos kb]
    exact x.sum _ o (fun e=>(c5 ⟨e,kb.2⟩).1 kb.1) f
   ·have e1:pairE k a b=twoE k a b:=by rw[pairE,if_neg k6,if_neg ka,if_neg kb]
    rw[e1]
    exact .two x y (e0.trans e1)
theorem foldX_okE (e:GExpr):okE (foldX e) 1 false=okE e 1 false:=by
 rw[foldX]
 split
 ·rename_i h;rw[h];exact (okE_six _).2 (foldE_ok ((okE_six e).1 h)).1
 ·rfl
def wcombE (W:Int→Option Int) (G:ByteArray→Option Int) (k n:Int) (s:ByteArray):List (Option Int)→Option Int
 | []=>if k=1 then some n else if k=11 then W n else if k=12 then G s else none
 | [a]=>a.bind fun a=>some (wr16 (-a))
 | a::b::_=>a.bind fun a=>b.bind fun b=>compE k a b
mutual
def worthE (W:Int→Option Int) (G:ByteArray→Option Int):GExpr→Option Int
 | .mk k n s l=>wcombE W G k n s (worthL W G l)
def worthL (W:Int→Option Int) (G:ByteArray→Option Int):List GExpr→List (Option Int)
 | []=>[]
 | e::l=>worthE W G e::worthL W G l
end
end Go.Proofs.VI
