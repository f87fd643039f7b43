/- Contracts of functions, and what they rest on: l11fold. -/
import Derived.Test.YtjlonhiojgljcaaGreatA3
import Derived.Test.YtjlonhiojgljcaaGreatA1
set_option linter.unusedVariables false
set_option linter.unusedSimpArgs false
set_option maxRecDepth 10000
set_option maxHeartbeats 4000000
namespace Go.Proofs.VI
open Go
inductive OkX:Nat→GExpr→Prop
 | num {h:Nat} {n:Int} (h0:0≤n) (h1:n≤65535):OkX (h+1) (.mk 1 n ⟨#[]⟩ [])
 | name {h:Nat} {k:Int} {s:ByteArray} (hk:k=2∨k=12) (hs:isNm s=true):OkX (h+1) (.mk k 0 s [])
 | here {h:Nat}:OkX (h+1) (.mk 3 0 ⟨#[]⟩ [])
 | sect {h:Nat} {n:Int} (h0:0≤n) (h1:n≤9):OkX (h+1) (.mk 11 n ⟨#[]⟩ [])
 | neg {h:Nat} {a:GExpr} (ha:OkX h a):OkX (h+1) (.mk 4 0 ⟨#[]⟩ [a])
 | two {h:Nat} {k:Int} {a b:GExpr} (h0:5≤k) (h1:k≤10) (ha:OkX h a) (hb:OkX h b):OkX (h+1) (.mk k 0 ⟨#[]⟩ [a,b])
theorem OkX.up {h:Nat} {e:GExpr} (x:OkX h e):∀ h',h≤h'→OkX h' e:=by
 induction x with
 | num h0 h1=>intro h' hh;obtain ⟨m,rfl⟩:∃ m,h'=m+1:=⟨h' - 1,by omega⟩;exact .num h0 h1
 | name hk hs=>intro h' hh;obtain ⟨m,rfl⟩:∃ m,h'=m+1:=⟨h' - 1,by omega⟩;exact .name hk hs
 | here=>intro h' hh;obtain ⟨m,rfl⟩:∃ m,h'=m+1:=⟨h' - 1,by omega⟩;exact .here
 | sect h0 h1=>intro h' hh;obtain ⟨m,rfl⟩:∃ m,h'=m+1:=⟨h' - 1,by omega⟩;exact .sect h0 h1
 | neg ha ih=>intro h' hh;obtain ⟨m,rfl⟩:∃ m,h'=m+1:=⟨h' - 1,by omega⟩;exact .neg (ih m (by omega))
 | two h0 h1 ha hb iha ihb=>intro h' hh;obtain ⟨m,rfl⟩:∃ m,h'=m+1:=⟨h' - 1,by omega⟩;exact .two h0 h1 (iha m (by omega)) (ihb m (by omega))
theorem hereE_cases0 (e:GExpr) (h:hereE e=true):
  (e.k=1∧0≤e.n∧e.n≤65535∧e.s=⟨#[]⟩∧e.l=[])∨((e.k=2∨e.k=12)∧e.n=0∧isNm e.s=true∧e.l=[])∨(e.k=3∧e.n=0∧e.s=⟨#[]⟩∧e.l=[])∨(e.k=11∧0≤e.n∧e.n≤9∧e.s=⟨#[]⟩∧e.l=[])∨
  (e.k=4∧e.n=0∧e.s=⟨#[]⟩∧∃ a,e.l=[a])∨(5≤e.k∧e.k≤10∧e.n=0∧e.s=⟨#[]⟩∧∃ a b,e.l=[a,b]):=by
 have l0:∀ {l:List GExpr},decide ((l.length:Int)=0)=true→l=[]:=fun {l} h=>List.eq_nil_of_length_eq_zero (by have:=of_decide_eq_true h;omega)
 have l1:∀ {l:List GExpr},decide ((l.length:Int)=1)=true→∃ a,l=[a]:=fun {l} h=>by
  have:=of_decide_eq_true h
  match l,this with
  | [a],_=>exact ⟨a,rfl⟩
  | [],h=>simp at h
  | _::_::_,h=>simp at h;omega
 have l2:∀ {l:List GExpr},decide ((l.length:Int)=2)=true→∃ a b,l=[a,b]:=fun {l} h=>by
  have:=of_decide_eq_true h
  match l,this with
  | [a,b],_=>exact ⟨a,b,rfl⟩
  | [],h=>simp at h
  | [_],h=>simp at h
  | _::_::_::_,h=>simp at h;omega
 rw[hereE] at h
 by_cases c1:e.k≠1∧e.k≠11∧e.n≠0
 ·rw[if_pos c1] at h;cases h
 rw[if_neg c1] at h
 by_cases c2:e.k≠2∧e.k≠12∧e.s≠⟨#[]⟩
 ·rw[if_pos c2] at h;cases h
 rw[if_neg c2] at h
 by_cases k1:e.k=1
 ·rw[if_pos k1] at h
  simp only[Bool.and_eq_true,inI_true] at h
  exact .inl ⟨k1,h.1.1,h.1.2,Classical.byContradiction fun z=>c2 ⟨by omega,by omega,z⟩,l0 h.2⟩
 rw[if_neg k1] at h
 by_cases k2:e.k=2∨e.k=12
 ·rw[if_pos k2] at h
  simp only[Bool.and_eq_true] at h
  exact .inr (.inl ⟨k2,Classical.byContradiction fun z=>c1 ⟨by omega,by omega,z⟩,h.1,l0 h.2⟩)
 rw[if_neg k2] at h
 by_cases k3:e.k=3
 ·rw[if_pos k3] at h
  exact .inr (.inr (.inl ⟨k3,Classical.byContradiction fun z=>c1 ⟨by omega,by omega,z⟩,Classical.byContradiction fun z=>c2 ⟨by omega,by omega,z⟩,l0 h⟩))
 rw[if_neg k3] at h
 by_cases k4:e.k=4
 ·rw[if_pos k4] at h
  exact .inr (.inr (.inr (.inr (.inl ⟨k4,Classical.byContradiction fun z=>c1 ⟨by omega,by omega,z⟩,Classical.byContradiction fun z=>c2 ⟨by omega,by omega,z⟩,l1 h⟩))))
 rw[if_neg k4] at h
 by_cases k5:e.k=5∨e.k=6∨e.k=7∨e.k=8∨e.k=9∨e.k=10
 ·rw[if_pos k5] at h
  exact .inr (.inr (.inr (.inr (.inr ⟨by omega,by omega,Classical.byContradiction fun z=>c1 ⟨by omega,by omega,z⟩,Classical.byContradiction fun z=>c2 ⟨by omega,by omega,z⟩,l2 h⟩))))
 rw[if_neg k5] at h
 by_cases k11:e.k=11
 ·rw[if_pos k11] at h
  simp only[Bool.and_eq_true,inI_true] at h
  exact .inr (.inr (.inr (.inl ⟨k11,h.1.1,h.1.2,Classical.byContradiction fun z=>c2 ⟨by omega,by omega,z⟩,l0 h.2⟩)))
 rw[if_neg k11] at h
 cases h
theorem hereE_cases {k n:Int} {s:ByteArray} {l:List GExpr} (h:hereE (.mk k n s l)=true):
  (k=1∧0≤n∧n≤65535∧s=⟨#[]⟩∧l=[])∨((k=2∨k=12)∧n=0∧isNm s=true∧l=[])∨(k=3∧n=0∧s=⟨#[]⟩∧l=[])∨(k=11∧0≤n∧n≤9∧s=⟨#[]⟩∧l=[])∨
  (k=4∧n=0∧s=⟨#[]⟩∧∃ a,l=[a])∨(5≤k∧k≤10∧n=0∧s=⟨#[]⟩∧∃ a b,l=[a,b]):=hereE_cases0 (.mk k n s l) h
theorem okE_iff:∀ (h:Nat) (e:GExpr),okE e (7 - h) false=true↔OkX h e
 | 0,e=>by
  constructor
  ·intro he;rw[okE_un] at he;simp at he
  ·intro x;cases x
 | h+1,.mk k n s l=>by
  have ih:=okE_iff h
  have e1:(7:Int) - ((h+1:Nat):Int)+1=7 - (h:Int):=by omega
  have hd:decide (6 < (7:Int) - ((h+1:Nat):Int))=false:=decide_eq_false (by omega)
  rw[okE_un,hd,e1]
  simp only[Bool.not_false,Bool.true_and,Bool.false_and,Bool.and_eq_true,GExpr.l]
  constructor
  ·rintro ⟨h1,h2⟩
   rw[List.all_eq_true] at h2
   rcases hereE_cases h1 with ⟨rfl,h3,h4,rfl,rfl⟩ | ⟨hk,rfl,h3,rfl⟩ | ⟨rfl,rfl,rfl,rfl⟩ | ⟨rfl,h3,h4,rfl,rfl⟩ | ⟨rfl,rfl,rfl,a,rfl⟩ | ⟨h3,h4,rfl,rfl,a,b,rfl⟩
   ·exact .num h3 h4
   ·exact .name hk h3
   ·exact .here
   ·exact .sect h3 h4
   ·exact .neg ((ih a).1 (h2 a (by simp)))
   ·exact .two h3 h4 ((ih a).1 (h2 a (by simp))) ((ih b).1 (h2 b (by simp)))
  ·intro x
   cases x with
   | num h0 h1=>exact ⟨by simp[hereE,GExpr.k,GExpr.n,GExpr.s,GExpr.l,inI,h0,h1],rfl⟩
   | name hk hs=>rcases hk with rfl | rfl<;>exact ⟨by simp[hereE,GExpr.k,GExpr.n,GExpr.s,GExpr.l,hs],rfl⟩
   | here=>exact ⟨by simp[hereE,GExpr.k,GExpr.n,GExpr.s,GExpr.l],rfl⟩
   | sect h0 h1=>exact ⟨by simp[hereE,GExpr.k,GExpr.n,GExpr.s,GExpr.l,inI,h0,h1],rfl⟩
   | neg ha=>exact ⟨by simp[hereE,GExpr.k,GExpr.n,GExpr.s,GExpr.l],by simp[(ih _).2 ha]⟩
   | two h0 h1 ha hb=>
    refine ⟨?_,by simp[(ih _).2 ha,(ih _).2 hb]⟩
    have hk:k=5∨k=6∨k=7∨k=8∨k=9∨k=10:=by omega
    rcases hk with rfl | rfl | rfl | rfl | rfl | rfl<;>simp[hereE,GExpr.k,GExpr.n,GExpr.s,GExpr.l]
theorem okE_six (e:GExpr):okE e 1 false=true↔OkX 6 e:=okE_iff 6 e
theorem OkX.fit {h:Nat} {e:GExpr} (x:OkX h e):GExpr.fit e:=by
 induction x with
 | neg ha ih=>exact GExpr.fit_mk ⟨by simp[GExpr.l],fun y hy=>by simp[GExpr.l] at hy;subst hy;exact ih⟩
 | two h0 h1 ha hb iha ihb=>exact GExpr.fit_mk ⟨by simp[GExpr.l],fun y hy=>by simp[GExpr.l] at hy;rcases hy with rfl | rfl<;>assumption⟩
 | _=>exact GExpr.fit_mk ⟨by simp[GExpr.l],fun y hy=>by simp[GExpr.l] at hy⟩
theorem isNm_size {s:ByteArray} (h:isNm s=true):1≤s.size∧s.size≤6:=by
 simp only[isNm,form,Bool.and_eq_true] at h
 have:=inI_true.1 h.1.1
 omega
theorem OkX.ok {h:Nat} {e:GExpr} (x:OkX h e):GExpr.ok e:=by
 have z:(⟨#[]⟩:ByteArray).size≤9223372036854775807:=by simp[ByteArray.size]
 induction x with
 | num h0 h1=>exact GExpr.ok_mk (by omega) (by omega) z (by simp) (by simp)
 | name hk hs=>have:=isNm_size hs;exact GExpr.ok_mk (by omega) (by omega) (by omega) (by simp) (by simp)
 | here=>exact GExpr.ok_mk (by omega) (by omega) z (by simp) (by simp)
 | sect h0 h1=>exact GExpr.ok_mk (by omega) (by omega) z (by simp) (by simp)
 | neg ha ih=>exact GExpr.ok_mk (by omega) (by omega) z (by simp) (fun y hy=>by simp at hy;subst hy;exact ih)
 | two h0 h1 ha hb iha ihb=>exact GExpr.ok_mk (by omega) (by omega) z (by simp) (fun y hy=>by simp at hy;rcases hy with rfl | rfl<;>assumption)
def numE (n:Int):GExpr:= .mk 1 (wr16 n) ⟨#[]⟩ []
def twoE (k:Int) (a b:GExpr):GExpr:= .mk k 0 ⟨#[]⟩ [a,b]
def compE (k a b:Int):Option Int:=
 if k=5 then some (wr16 (a+b)) else if k=6 then some (wr16 (a - b)) else if k=7 then some (wr16 (a*b)) else if k=9 then some (bitsI .and .i64 a b) else if k=10 then some (bitsI .or .i64 a b)
 else if b=0 then none else some (IntKind.wrap .i64 (a.tdiv b))
def partE (e:GExpr):GExpr×Int:=match e with | .mk 5 _ _ [x,.mk 1 n _ _]=>(x,n) | e=>(e,0)
def addE (x:GExpr) (n:Int):GExpr:=if wr16 n=0 then x else twoE 5 x (numE n)
def sumE (a:GExpr) (n:Int):GExpr:=addE (partE a).1 ((partE a).2+n)
def subE (a b:GExpr):GExpr:=if b.k=1 then sumE a (-b.n) else if (partE a).1.k=11∧(partE b).1.k=11∧(partE a).1.n=(partE b).1.n then numE ((partE a).2 - (partE b).2) else twoE 6 a b
def pairE (k:Int) (a b:GExpr):GExpr:=if k=6 then subE a b else if k=5∧a.k=1 then sumE b a.n else if k=5∧b.k=1 then sumE a b.n else twoE k a b
def ftwoE (k:Int) (a b:GExpr):GExpr:=if a.k=1∧b.k=1 then (match compE k a.n b.n with | some n=>numE n | none=>pairE k a b) else pairE k a b
def combE (k n:Int) (s:ByteArray):List GExpr→GExpr
 | []=> .mk k n s []
 | [a]=>if a.k=1 then numE (-a.n) else .mk 4 0 ⟨#[]⟩ [a]
 | a::b::_=>ftwoE k a b
mutual
def foldE:GExpr→GExpr
 | .mk k n s l=>combE k n s (foldL l)
def foldL:List GExpr→List GExpr
 | []=>[]
 | e::l=>foldE e::foldL l
end
theorem wr16_wrap (x:Int):wr16 (IntKind.wrap .i64 x)=wr16 x:=by
 have key:∀ M:Int,M=18446744073709551616→∀ c:Bool,(if c=true then x % M - M else x % M) % 65536=x % 65536:=by
  intro M hM c;subst hM;split<;>omega
 exact key (2 ^ 64) (by decide) _
theorem wr16_idem (x:Int):wr16 (wr16 x)=wr16 x:=by simp only[wr16];omega
theorem wr16_in (x:Int):0≤wr16 x∧wr16 x≤65535:=by simp only[wr16];omega
theorem numE_wr (n:Int):numE (wr16 n)=numE n:=by rw[numE,wr16_idem];rfl
theorem numE_wrap (n:Int):numE (IntKind.wrap .i64 n)=numE n:=by rw[numE,wr16_wrap];rfl
theorem part_cases {h:Nat} {e:GExpr} (x:OkX h e):(∃ m a n,h=m+2∧e= .mk 5 0 ⟨#[]⟩ [a,.mk 1 n ⟨#[]⟩ []]∧0≤n∧n≤65535∧OkX (m+1) a∧partE e=(a,n))∨
  (partE e=(e,0)∧(e.k≠5∨∃ a b,e= .mk 5 0 ⟨#[]⟩ [a,b]∧b.k≠1)):=by
 cases x with
 | @two m k a b h0 h1 ha hb=>
  by_cases hk:k=5
  ·subst hk
   cases hb with
   | num g0 g1=>exact .inl ⟨_,a,_,rfl,rfl,g0,g1,ha,rfl⟩
   | name hk hs=>exact .inr ⟨by rcases hk with rfl | rfl<;>rfl,.inr ⟨_,_,rfl,by rcases hk with rfl | rfl<;>simp[GExpr.k]⟩⟩
   | here=>exact .inr ⟨rfl,.inr ⟨_,_,rfl,by simp[GExpr.k]⟩⟩
   | sect _ _=>exact .inr ⟨rfl,.inr ⟨_,_,rfl,by simp[GExpr.k]⟩⟩
   | neg _=>exact .inr ⟨rfl,.inr ⟨_,_,rfl,by simp[GExpr.k]⟩⟩
   | @two _ k2 _ _ g0 g1 _ _=>
    refine .inr ⟨?_,.inr ⟨_,_,rfl,by simp only[GExpr.k];omega⟩⟩
    have:k2≠1:=by omega
    unfold partE
    split
    ·rename_i h;injection h with _ _ _ h;injection h with _ h;injection h with h _;injection h with h;exact absurd h this
    ·rfl
  ·refine .inr ⟨?_,.inl hk⟩
   unfold partE
   split
   ·rename_i h;injection h with h;exact absurd h hk
   ·rfl
 | name hk hs=>exact .inr ⟨by rcases hk with rfl | rfl<;>rfl,.inl (by rcases hk with rfl | rfl<;>simp[GExpr.k])⟩
 | num _ _=>exact .inr ⟨rfl,.inl (by simp[GExpr.k])⟩
 | here=>exact .inr ⟨rfl,.inl (by simp[GExpr.k])⟩
 | sect _ _=>exact .inr ⟨rfl,.inl (by simp[GExpr.k])⟩
 | neg _=>exact .inr ⟨rfl,.inl (by simp[GExpr.k])⟩
def flatA (e:GExpr):Prop:=(partE (partE e).1).2=0∧(partE (partE e).1).1=(partE e).1∧((partE e).1.k=1→e.k=1)
theorem num_ok {h:Nat} (n:Int):OkX (h+1) (numE n):= .num (wr16_in n).1 (wr16_in n).2
theorem flat_num (n:Int):flatA (numE n):=⟨rfl,rfl,fun h=>h⟩
theorem part_two {k:Int} {a b:GExpr} (h:k≠5∨b.k≠1):partE (twoE k a b)=(twoE k a b,0):=by
 obtain ⟨k2,n2,s2,l2⟩:=b
 unfold partE twoE
 split
 ·rename_i e
  injection e with e1 _ _ e2;injection e2 with _ e2;injection e2 with e2 _;injection e2 with e2
  rcases h with h | h
  ·exact absurd e1 h
  ·exact absurd e2 h
 ·rfl
theorem flat_two {k:Int} {a b:GExpr} (hk:k≠1) (h:k≠5∨b.k≠1):flatA (twoE k a b):=by
 refine ⟨by rw[part_two h,part_two h],by rw[part_two h,part_two h],by rw[part_two h];intro e;exact e⟩
theorem sumE_ok {h:Nat} {a:GExpr} (n:Int) (ha:OkX h a) (hk:a.k≠1) (hf:flatA a):OkX (h+1) (sumE a n)∧flatA (sumE a n)∧(sumE a n).k≠1:=by
 obtain ⟨f1,f2,f3⟩:=hf
 have hp:OkX h (partE a).1:=by
  rcases part_cases ha with ⟨m,x,n,rfl,rfl,_,_,hx,hp⟩ | ⟨hp,_⟩
  ·rw[hp];exact hx.up _ (by omega)
  ·rw[hp];exact ha
 have hk1:(partE a).1.k≠1:=fun e=>hk (f3 e)
 rw[sumE,addE]
 split
 ·exact ⟨hp.up _ (by omega),⟨by rw[f2,f1],by rw[f2,f2],by rw[f2];exact fun e=>e⟩,hk1⟩
 ·obtain ⟨m,rfl⟩:∃ m,h=m+1:=by cases ha<;>exact ⟨_,rfl⟩
  refine ⟨.two (by omega) (by omega) hp (num_ok _),?_,by simp[twoE,GExpr.k]⟩
  have e:partE (twoE 5 (partE a).1 (numE ((partE a).2+n)))=((partE a).1,wr16 ((partE a).2+n)):=rfl
  refine ⟨by rw[e];exact f1,by rw[e];exact f2,by rw[e];exact fun h=>absurd h hk1⟩
theorem ftwoE_ok {h:Nat} {k:Int} {a b:GExpr} (h0:5≤k) (h1:k≤10) (ha:OkX h a) (hb:OkX h b) (fa:flatA a) (fb:flatA b):OkX (h+1) (ftwoE k a b)∧flatA (ftwoE k a b):=by
 have pair:¬ (a.k=1∧b.k=1∧(k=5∨k=6))→OkX (h+1) (pairE k a b)∧flatA (pairE k a b):=fun hne=>by
  rw[pairE]
  split
  ·rename_i hk;subst hk
   rw[subE]
   split
   ·rename_i hb1
    obtain ⟨g1,g2,_⟩:=sumE_ok (-b.n) ha (fun e=>hne ⟨e,hb1,.inr rfl⟩) fa
    exact ⟨g1,g2⟩
   ·split
    ·exact ⟨num_ok _,flat_num _⟩
    ·exact ⟨.two h0 h1 ha hb,flat_two (by omega) (.inl (by omega))⟩
  ·split
   ·rename_i hk
    obtain ⟨g1,g2,_⟩:=sumE_ok a.n hb (fun e=>hne ⟨hk.2,e,.inl hk.1⟩) fb
    exact ⟨g1,g2⟩
   ·split
    ·rename_i hk2 hk
     obtain ⟨g1,g2,_⟩:=sumE_ok b.n ha (fun e=>hne ⟨e,hk.2,.inl hk.1⟩) fa
     exact ⟨g1,g2⟩
    ·rename_i hk2 hk
     refine ⟨.two h0 h1 ha hb,flat_two (by omega) ?_⟩
     by_cases e:k=5
     ·exact .inr fun e2=>hk ⟨e,e2⟩
     ·exact .inl e
 rw[ftwoE]
 split
 ·rename_i hn
  cases hc:compE k a.n b.n with
  | some n=>exact ⟨num_ok _,flat_num _⟩
  | none=>
   refine pair fun e=>?_
   rcases e.2.2 with rfl | rfl<;>simp[compE] at hc
 ·rename_i hn
  exact pair fun e=>hn ⟨e.1,e.2.1⟩
theorem foldE_ok {h:Nat} {e:GExpr} (x:OkX h e):OkX h (foldE e)∧flatA (foldE e):=by
 induction x with
 | num h0 h1=>exact ⟨.num h0 h1,⟨rfl,rfl,fun h=>h⟩⟩
 | name hk hs=>exact ⟨.name hk hs,by rcases hk with rfl | rfl<;>exact ⟨rfl,rfl,fun h=>h⟩⟩
 | here=>exact ⟨.here,⟨rfl,rfl,fun h=>h⟩⟩
 | sect h0 h1=>exact ⟨.sect h0 h1,⟨rfl,rfl,fun h=>h⟩⟩
 | @neg m a ha ih=>
  show OkX (m+1) (if (foldE a).k=1 then numE (-(foldE a).n) else .mk 4 0 ⟨#[]⟩ [foldE a])∧flatA (if (foldE a).k=1 then numE (-(foldE a).n) else .mk 4 0 ⟨#[]⟩ [foldE a])
  split
  ·exact ⟨num_ok _,flat_num _⟩
  ·exact ⟨.neg ih.1,⟨rfl,rfl,fun h=>h⟩⟩
 | @two m k a b h0 h1 ha hb iha ihb=>exact ftwoE_ok h0 h1 iha.1 ihb.1 iha.2 ihb.2
end Go.Proofs.VI
