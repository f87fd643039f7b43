/- Contracts of functions, and what they rest on: l17par. -/
import Derived.Test.YtjlonhiojgljcaaGreatA7
import Derived.Test.YtjlonhiojgljcaaGreatF6
set_option linter.unusedVariables false
set_option linter.unusedSimpArgs false
set_option maxRecDepth 10000
set_option maxHeartbeats 4000000
namespace Go.Proofs.VI
open Go
def bindO {α β:Type} (P:Int→Option (α×Int)) (Q:α→Int→Option (β×Int)) (p:Int):Option (β×Int):=match P p with | some (x,q)=>Q x q | none=>none
def retO {α:Type} (x:α) (p:Int):Option (α×Int):=some (x,p)
def noneO {α:Type} (_:Int):Option (α×Int):=none
def manyO {α:Type} (P:Int→Option (α×Int)):Nat→Int→Option (List α×Int)
 | 0=>retO []
 | n+1=>bindO P fun x=>bindO (manyO P n) fun l=>retO (x::l)
def manyS {α:Type} (f:RS→α×RS):Nat→RS→List α×RS
 | 0,s=>([],s)
 | n+1,s=>((manyS f n s).1++[(f (manyS f n s).2).1],(f (manyS f n s).2).2)
theorem partsS_many (f:RS→GExpr×RS):∀ n s,partsS f n s=manyS f n s
 | 0,s=>rfl
 | n+1,s=>by rw[partsS,manyS,partsS_many f n s]
theorem manyS_cons {α:Type} (f:RS→α×RS):∀ n s,manyS f (n+1) s=((f s).1::(manyS f n (f s).2).1,(manyS f n (f s).2).2)
 | 0,s=>rfl
 | n+1,s=>by rw[manyS,manyS_cons f n s];rfl
def untilS {α:Type} (f:RS→α×RS):Nat→RS→List α×RS
 | 0,s=>([],s)
 | n+1,s=>if s.2=true then ([],s) else ((f s).1::(untilS f n (f s).2).1,(untilS f n (f s).2).2)
def Rep {α:Type} (f:RS→α×RS) (P:Int→Option (α×Int)):Prop:=
 ∀ p bad,((bad=true∨P p=none)→(f (p,bad)).2.2=true)∧∀ x q,bad=false→P p=some (x,q)→f (p,bad)=(x,(q,false))
theorem Rep.bad {α:Type} {f:RS→α×RS} {P:Int→Option (α×Int)} (h:Rep f P) {s:RS} (hs:s.2=true):(f s).2.2=true:=(h s.1 s.2).1 (.inl hs)
theorem Rep.ret {α:Type} (x:α):Rep (fun s=>(x,s)) (retO x):=fun p bad=>⟨fun h=>h.elim (fun h=>h) (fun h=>nomatch h),fun y q hb h=>(by simp only[retO,Option.some.injEq,Prod.mk.injEq] at h;obtain ⟨rfl,rfl⟩:=h;subst hb;rfl)⟩
theorem Rep.bind {α β:Type} {f:RS→α×RS} {P:Int→Option (α×Int)} {g:α→RS→β×RS} {Q:α→Int→Option (β×Int)} (h1:Rep f P) (h2:∀ x,Rep (g x) (Q x)):
  Rep (fun s=>g (f s).1 (f s).2) (bindO P Q):=fun p bad=>by
 refine ⟨fun h=>?_,fun x q hb h=>?_⟩
 ·rcases h with h | h
  ·exact (h2 _).bad (h1.bad h)
  ·cases hP:P p with
   | none=>exact (h2 _).bad ((h1 p bad).1 (.inr hP))
   | some y=>
    obtain ⟨y,q⟩:=y
    cases bad with
    | true=>exact (h2 _).bad (h1.bad rfl)
    | false=>
     have e:=(h1 p false).2 y q rfl hP
     dsimp only
     rw[e]
     rw[bindO,hP] at h
     exact (h2 y q false).1 (.inr h)
 ·subst hb
  rw[bindO] at h
  split at h
  ·rename_i y r hP
   have e:=(h1 p false).2 y r rfl hP
   dsimp only
   rw[e]
   exact (h2 y r false).2 x q rfl h
  ·cases h
theorem Rep.many {α:Type} {f:RS→α×RS} {P:Int→Option (α×Int)} (h:Rep f P):∀ n,Rep (manyS f n) (manyO P n)
 | 0=>Rep.ret []
 | n+1=>by
  have:=Rep.bind h fun x=>Rep.bind (Rep.many h n) fun l=>Rep.ret (x::l)
  intro p bad
  have:=this p bad
  rw[manyS_cons]
  exact this
theorem Rep.until {α:Type} {f:RS→α×RS} {P:Int→Option (α×Int)} (h:Rep f P):∀ n,Rep (untilS f n) (manyO P n)
 | 0=>Rep.ret []
 | n+1=>by
  have:=Rep.bind h fun x=>Rep.bind (Rep.until h n) fun l=>Rep.ret (x::l)
  intro p bad
  have:=this p bad
  rw[untilS]
  cases bad with
  | true=>exact ⟨fun _=>rfl,fun x q hb=>by cases hb⟩
  | false=>exact this
theorem Rep.congr {α:Type} {f g:RS→α×RS} {P:Int→Option (α×Int)} (h:Rep f P) (e:∀ s,g s=f s):Rep g P:=(funext e:g=f)▸h
def failS {α:Type} (c:Bool) (x:α) (s:RS):α×RS:=(x,s.1,s.2||c)
theorem Rep.fail {α:Type} (c:Bool) (x:α):Rep (failS c x) (if c=true then noneO else retO x):=fun p bad=>by
 cases c
 ·refine ⟨fun h=>?_,fun y q hb h=>?_⟩
  ·rcases h with h | h
   ·simp[failS,h]
   ·cases h
  ·simp only[Bool.false_eq_true,if_false,retO,Option.some.injEq,Prod.mk.injEq] at h
   obtain ⟨rfl,rfl⟩:=h
   subst hb;rfl
 ·exact ⟨fun _=>by simp[failS],fun y q hb h=>by simp[noneO] at h⟩
theorem Rep.no {α:Type} {f:RS→α×RS} (h:∀ s,(f s).2.2=true):Rep f noneO:=fun p bad=>⟨fun _=>h _,fun x q _ h=>by cases h⟩
theorem rep_word (b:List UInt8):Rep (wordS b) (getW b):=fun p bad=>by
 refine ⟨fun h=>?_,fun x q hb h=>?_⟩
 ·rw[wordS]
  cases bad with
  | true=>rfl
  | false=>
   rcases h with h | h
   ·cases h
   ·simp[h]
 ·subst hb;rw[wordS];simp[h]
theorem rep_text (b:List UInt8):Rep (textS b) (getT b):=fun p bad=>by
 refine ⟨fun h=>?_,fun x q hb h=>?_⟩
 ·rw[textS]
  cases bad with
  | true=>rfl
  | false=>
   rcases h with h | h
   ·cases h
   ·simp[h]
 ·subst hb;rw[textS];simp[h]
def argsK (k:Int):Nat:=if k=4 then 1 else if inI k 5 10=true then 2 else 0
def headO (b:List UInt8) (P:Int→Option (GExpr×Int)) (k:Int):Int→Option (GExpr×Int):=
 if k=1∨k=11 then bindO (getW b) fun n=>retO (.mk k n ⟨#[]⟩ []) else if k=2∨k=12 then bindO (getT b) fun s=>retO (.mk k 0 s [])
 else bindO (manyO P (argsK k)) fun l=>retO (.mk k 0 ⟨#[]⟩ l)
def exprO (b:List UInt8):Nat→Int→Option (GExpr×Int)
 | 0=>noneO
 | d+1=>bindO (getW b) (headO b (exprO b d))
def bodyS (v:Bool) (b:List UInt8) (d:Nat) (k:Int) (s:RS):GExpr×RS:=
 if s.2=true then (if v=true then .mk k 0 ⟨#[]⟩ [] else .mk 0 0 ⟨#[]⟩ [],s.1,true)
 else (.mk k (headS b k s).1 (headS b k s).2.1 (partsS (exprS v b d) (headS b k s).2.2.1 (headS b k s).2.2.2).1,(partsS (exprS v b d) (headS b k s).2.2.1 (headS b k s).2.2.2).2)
theorem rep_expr (v:Bool) (b:List UInt8):∀ d,Rep (exprS v b d) (exprO b d)
 | 0=>Rep.no fun s=>by rw[exprS]
 | d+1=>by
  have ih:=rep_expr v b d
  have hb:∀ k,Rep (bodyS v b d k) (headO b (exprO b d) k):=fun k=>by
   intro p bad
   cases bad with
   | true=>exact ⟨fun _=>by simp[bodyS],fun x q hb=>by cases hb⟩
   | false=>
    have e:bodyS v b d k (p,false)=(.mk k (headS b k (p,false)).1 (headS b k (p,false)).2.1 (partsS (exprS v b d) (headS b k (p,false)).2.2.1 (headS b k (p,false)).2.2.2).1,(partsS (exprS v b d) (headS b k (p,false)).2.2.1 (headS b k (p,false)).2.2.2).2):=by
     rw[bodyS,if_neg (by simp)]
    rw[e]
    by_cases h1:k=1∨k=11
    ·have:=(Rep.bind (rep_word b) fun n=>Rep.ret (GExpr.mk k n ⟨#[]⟩ [])) p false
     rw[headO,if_pos h1]
     have e2:headS b k (p,false)=((wordS b (p,false)).1,⟨#[]⟩,0,(wordS b (p,false)).2):=by rw[headS,if_pos h1]
     rw[e2];exact this
    ·by_cases h2:k=2∨k=12
     ·have:=(Rep.bind (rep_text b) fun n=>Rep.ret (GExpr.mk k 0 n [])) p false
      rw[headO,if_neg h1,if_pos h2]
      have e2:headS b k (p,false)=(0,(textS b (p,false)).1,0,(textS b (p,false)).2):=by rw[headS,if_neg h1,if_pos h2]
      rw[e2];exact this
     ·have:=(Rep.bind (Rep.many ih (argsK k)) fun l=>Rep.ret (GExpr.mk k 0 ⟨#[]⟩ l)) p false
      rw[headO,if_neg h1,if_neg h2]
      have e2:headS b k (p,false)=(0,⟨#[]⟩,argsK k,(p,false)):=by rw[headS,if_neg h1,if_neg h2];rfl
      rw[e2]
      dsimp only
      rw[partsS_many];exact this
  refine (Rep.bind (rep_word b) hb).congr fun s=>?_
  rw[exprS,bodyS]
def PreI {α:Type} (n:Nat) (P P':Int→Option (α×Int)):Prop:=(∀ (p:Int) (x:α) (q:Int),p≤n→(P' p=some (x,q)↔(P p=some (x,q)∧q≤n)))∧∀ p x q,P p=some (x,q)→p≤q
theorem PreI.ret {α:Type} {n:Nat} (x:α):PreI n (retO x) (retO x):=by
 refine ⟨fun p y q hp=>?_,fun p y q h=>?_⟩
 ·simp only[retO,Option.some.injEq,Prod.mk.injEq]
  constructor
  ·rintro ⟨h1,h2⟩;exact ⟨⟨h1,h2⟩,by omega⟩
  ·exact fun h=>h.1
 ·simp only[retO,Option.some.injEq,Prod.mk.injEq] at h;omega
theorem PreI.no {α:Type} {n:Nat}:PreI n (noneO (α:=α)) noneO:=⟨fun p x q _=>by simp[noneO],fun p x q h=>by simp[noneO] at h⟩
theorem PreI.bind {α β:Type} {n:Nat} {P P':Int→Option (α×Int)} {Q Q':α→Int→Option (β×Int)} (h1:PreI n P P') (h2:∀ x,PreI n (Q x) (Q' x)):PreI n (bindO P Q) (bindO P' Q'):=by
 refine ⟨fun p y r hp=>?_,fun p y r h=>?_⟩
 ·constructor
  ·intro h
   rw[bindO] at h
   split at h
   ·rename_i x q hP
    obtain ⟨h3,h4⟩:=(h1.1 p x q hp).1 hP
    obtain ⟨h5,h6⟩:=((h2 x).1 q y r h4).1 h
    exact ⟨by rw[bindO,h3];exact h5,h6⟩
   ·cases h
  ·rintro ⟨h,hr⟩
   rw[bindO] at h
   split at h
   ·rename_i x q hP
    have hq:=(h2 x).2 q y r h
    have h3:=(h1.1 p x q hp).2 ⟨hP,by omega⟩
    rw[bindO,h3]
    exact ((h2 x).1 q y r (by omega)).2 ⟨h,hr⟩
   ·cases h
 ·rw[bindO] at h
  split at h
  ·rename_i x q hP
   have:=h1.2 p x q hP
   have:=(h2 x).2 q y r h
   omega
  ·cases h
theorem PreI.many {α:Type} {n:Nat} {P P':Int→Option (α×Int)} (h:PreI n P P'):∀ k,PreI n (manyO P k) (manyO P' k)
 | 0=>PreI.ret []
 | k+1=>PreI.bind h fun x=>PreI.bind (PreI.many h k) fun l=>PreI.ret (x::l)
def atMost {α:Type} (k m:Int) (P:Int→Option (α×Int)):Int→Option (α×Int):=if k>m then noneO else P
theorem PreI.most {α:Type} {n:Nat} {P P':Int→Option (α×Int)} (k m:Int) (h:PreI n P P'):PreI n (atMost k m P) (atMost k m P'):=by
 rw[atMost,atMost];split
 ·exact PreI.no
 ·exact h
end Go.Proofs.VI
