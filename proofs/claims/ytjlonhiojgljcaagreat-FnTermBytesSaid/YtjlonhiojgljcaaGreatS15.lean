/- Contracts of functions, and what they rest on: lawbase l17back l17d. -/
import Derived.Test.YtjlonhiojgljcaaGreatS14
import Derived.Test.YtjlonhiojgljcaaGreatG9
set_option linter.unusedVariables false
set_option linter.unusedSimpArgs false
set_option maxRecDepth 10000
set_option maxHeartbeats 4000000
namespace Go.Proofs.VI
open Go
theorem laws_big' (b:List UInt8):Con 45 [.ro 1 (GByte.ros b)] (.bool (decide (1048576 < b.length))) [none]:=by
 have lb:(GByte.ros b).length=b.length:=by simp
 refine con Tryz.func45 ?_
 refine ⟨.of_eq (congrArg AV.bool ?_),trivial⟩
 rw[lb]
 by_cases h:1048576 < b.length
 ·rw[decide_eq_true h,decide_eq_true (by omega)]
 ·rw[decide_eq_false h,decide_eq_false (by omega)]
theorem laws_sameBytes (a b:List UInt8) (ha:a.length≤1099511627776) (hb:b.length≤1099511627776):Con 51 [.ro 1 (GByte.ros a),.ro 1 (GByte.ros b)] (.bool (decide (a=b))) [none,none]:=by
 have la:(GByte.ros a).length=a.length:=by simp
 have lb:(GByte.ros b).length=b.length:=by simp
 refine con Tryz.func51 ?_
 refine ⟨fun h=>?_,fun h=>?_⟩
 ·have h:=of_decide_eq_true h
  rw[la,lb] at h
  exact ⟨.of_eq (congrArg AV.bool (decide_eq_false (fun e=>h (by rw[e]))).symm),trivial⟩
 ·have h:=Decidable.not_not.1 (of_decide_eq_false h)
  rw[la,lb] at h
  have hl:a.length=b.length:=by omega
  refine ⟨{i:Nat // i≤a.length∧∀ j (h1:j < a.length) (h2:j < b.length),j < i→a[j]=b[j]},fun i=>⟨[(0,.ro 1 (GByte.ros a)),(1,.ro 1 (GByte.ros b)),(5,.int .i64 i.1)],[]⟩,fun i=>a.length - i.1,⟨0,Nat.zero_le _,fun j _ _ h=>absurd h (Nat.not_lt_zero _)⟩,?_,?_⟩
  ·exact ⟨rfl,rfl,rfl,trivial⟩
  ·rintro ⟨i,hi,hd⟩
   dsimp only
   have e1:IntKind.wrap .i64 ((i:Int)+1)=((i+1:Nat):Int):=w64 (by omega) (by omega)
   refine ⟨fun h=>?_,fun h=>?_⟩
   ·have h:=of_decide_eq_true h
    rw[la] at h
    have hi:i < a.length:=by omega
    have hi2:i < b.length:=by omega
    have ra:(GByte.ros a)[i]?=some (GByte.ro a[i]):=map_get _ _ hi
    have rb:(GByte.ros b)[i]?=some (GByte.ro b[i]):=map_get _ _ hi2
    refine ⟨Int.natCast_nonneg _,_,ra,Int.natCast_nonneg _,_,rb,by kernel_rfl,fun h2=>?_,fun h2=>?_⟩
    ·have h2:=of_decide_eq_true h2
     refine ⟨.of_eq (congrArg AV.bool (decide_eq_false (fun e=>h2 ?_)).symm),trivial⟩
     subst e;rfl
    ·have h2:=Decidable.not_not.1 (of_decide_eq_false h2)
     have h3:a[i]=b[i]:=UInt8.toNat_inj.1 (by omega)
     refine ⟨⟨i+1,hi,fun j g1 g2 h4=>?_⟩,Nat.sub_succ_lt_self _ _ hi,rfl,rfl,congrArg (AV.int .i64) e1,trivial⟩
     rcases Nat.lt_succ_iff_lt_or_eq.1 h4 with h5 | h5
     ·exact hd j g1 g2 h5
     ·subst h5;exact h3
   ·have h:=of_decide_eq_false h
    rw[la] at h
    refine ⟨.of_eq (congrArg AV.bool (decide_eq_true (List.ext_getElem hl fun j g1 g2=>hd j g1 g2 (by omega))).symm),trivial⟩
theorem At.cat {b x y:List UInt8} {p:Int} (h1:At b p x) (h2:At b (p+x.length) y):At b p (x++y):=by
 obtain ⟨a,r,e1,p1⟩:=h1
 obtain ⟨a',r',e2,p2⟩:=h2
 have hl:(a++x).length=a'.length:=by rw[List.length_append];omega
 have e3:(a++x)++r=a'++(y++r'):=by rw[←e2,e1,List.append_assoc]
 obtain ⟨e4,e5⟩:=List.append_inj e3 hl
 exact ⟨a,r',by rw[e1,e5];simp[List.append_assoc],p1⟩
theorem At.inb {b x:List UInt8} {p:Int} (h:At b p x):0≤p∧p+x.length≤b.length:=by
 obtain ⟨a,r,e1,p1⟩:=h
 rw[e1];simp only[List.length_append];omega
theorem At.nil {b:List UInt8} {p:Int} (h0:0≤p) (h1:p≤b.length):At b p []:=
 ⟨b.take p.toNat,b.drop p.toNat,by rw[List.nil_append,List.take_append_drop],by rw[List.length_take];omega⟩
def Back {α:Type} (b:List UInt8) (f:α→List UInt8) (P:Int→Option (α×Int)):Prop:=∀ p x q,P p=some (x,q)→At b p (f x)∧q=p+(f x).length
theorem back_word (b:List UInt8):Back b bW (getW b):=fun p n q h=>by
 obtain ⟨h0,h1,hq,hp,hl⟩:=getW_in h
 refine ⟨?_,by rw[bW_li];omega⟩
 obtain ⟨i,rfl⟩:∃ i:Nat,p=i:=⟨p.toNat,by omega⟩
 obtain ⟨_,_,e⟩:=getW_some (b:=b) (p:=i) hp (by omega)
 have hi:i+1 < b.length:=by omega
 rw[h] at e
 injection e with e;injection e with e _
 simp only[Int.toNat_natCast] at e
 have e1:w8 n=b[i]:=by
  have:=w8_toNat n
  have h2:=UInt8.toNat_lt b[i]
  have h3:=UInt8.toNat_lt b[i+1]
  refine UInt8.toNat_inj.1 ?_
  omega
 have e2:w8 (n/256)=b[i+1]:=by
  have:=w8_toNat (n/256)
  have h2:=UInt8.toNat_lt b[i]
  have h3:=UInt8.toNat_lt b[i+1]
  refine UInt8.toNat_inj.1 ?_
  omega
 refine ⟨b.take i,b.drop (i+2),?_,by rw[List.length_take];omega⟩
 rw[bW,e1,e2]
 have d1:b.drop i=b[i]::b.drop (i+1):=List.drop_eq_getElem_cons (by omega)
 have d2:b.drop (i+1)=b[i+1]::b.drop (i+2):=List.drop_eq_getElem_cons hi
 show b=b.take i++(b[i]::b[i+1]::b.drop (i+2))
 rw[←d2,←d1,List.take_append_drop]
theorem back_text (b:List UInt8):Back b bT (getT b):=fun p s q h=>by
 have hin:=getT_in h
 have e:bT s=bW s.size++bl s:=by rw[bT,if_neg (by omega)]
 rw[getT] at h
 split at h
 ·rename_i n q2 hw
  obtain ⟨g1,g2⟩:=back_word b p n q2 hw
  have hwi:=getW_in hw
  split at h
  ·rename_i hn
   injection h with h;injection h with h1 h2
   have hs:(s.size:Int)=n:=by omega
   have hbl:bl s=(b.drop q2.toNat).take n.toNat:=by rw[←h1];simp[bl,bytes]
   refine ⟨?_,by rw[e,List.length_append,bl_len,bW_len];omega⟩
   rw[e,hs]
   refine g1.cat ⟨b.take q2.toNat,b.drop (q2.toNat+n.toNat),?_,by rw[List.length_take,bW_li];omega⟩
   rw[hbl,←List.drop_drop,List.take_append_drop,List.take_append_drop]
  ·cases h
 ·cases h
theorem back_many {α:Type} {b:List UInt8} {f:α→List UInt8} {P:Int→Option (α×Int)} (hP:Back b f P):∀ (n:Nat) (p:Int) (l:List α) (q:Int),0≤p→p≤b.length→manyO P n p=some (l,q)→At b p (l.map f).flatten∧q=p+(l.map f).flatten.length
 | 0,p,l,q,h0,h1,h=>by
  simp only[manyO,retO,Option.some.injEq,Prod.mk.injEq] at h
  obtain ⟨rfl,rfl⟩:=h
  exact ⟨.nil h0 h1,by simp⟩
 | n+1,p,l,q,h0,h1,h=>by
  rw[manyO,bindO] at h
  split at h
  ·rename_i x q1 hx
   rw[bindO] at h
   split at h
   ·rename_i l1 q2 hl
    simp only[retO,Option.some.injEq,Prod.mk.injEq] at h
    obtain ⟨rfl,rfl⟩:=h
    obtain ⟨a1,a2⟩:=hP p x q1 hx
    have hb:=a1.inb
    obtain ⟨b1,b2⟩:=back_many hP n q1 l1 q2 (by omega) (by omega) hl
    rw[List.map_cons,List.flatten_cons]
    exact ⟨a1.cat (by rw[←a2];exact b1),by rw[List.length_append];omega⟩
   ·cases h
  ·cases h
theorem back_expr (b:List UInt8):∀ d,Back b putE (exprO b d)
 | 0=>fun p e q h=>by cases h
 | d+1=>fun p e q h=>by
  rw[exprO,bindO] at h
  split at h
  ·rename_i k q1 hk
   obtain ⟨a1,a2⟩:=back_word b p k q1 hk
   have hb:=a1.inb
   rw[headO] at h
   split at h
   ·rename_i hk1
    rw[bindO] at h
    split at h
    ·rename_i n q2 hn
     simp only[retO,Option.some.injEq,Prod.mk.injEq] at h
     obtain ⟨rfl,rfl⟩:=h
     obtain ⟨b1,b2⟩:=back_word b q1 n q2 hn
     have e:putE (.mk k n ⟨#[]⟩ [])=bW k++bW n:=by rw[putE,if_pos hk1]
     rw[e]
     exact ⟨a1.cat (by rw[←a2];exact b1),by rw[List.length_append];omega⟩
    ·cases h
   ·rename_i hk1
    split at h
    ·rename_i hk2
     rw[bindO] at h
     split at h
     ·rename_i s q2 hn
      simp only[retO,Option.some.injEq,Prod.mk.injEq] at h
      obtain ⟨rfl,rfl⟩:=h
      obtain ⟨b1,b2⟩:=back_text b q1 s q2 hn
      have e:putE (.mk k 0 s [])=bW k++bT s:=by rw[putE,if_neg hk1,if_pos hk2]
      rw[e]
      exact ⟨a1.cat (by rw[←a2];exact b1),by rw[List.length_append];omega⟩
     ·cases h
    ·rename_i hk2
     rw[bindO] at h
     split at h
     ·rename_i l q2 hn
      simp only[retO,Option.some.injEq,Prod.mk.injEq] at h
      obtain ⟨rfl,rfl⟩:=h
      obtain ⟨b1,b2⟩:=back_many (back_expr b d) _ q1 l q2 (by omega) (by omega) hn
      have e:putE (.mk k 0 ⟨#[]⟩ l)=bW k++(l.map putE).flatten:=by rw[putE,if_neg hk1,if_neg hk2,putL_eq]
      rw[e]
      exact ⟨a1.cat (by rw[←a2];exact b1),by rw[List.length_append];omega⟩
     ·cases h
  ·cases h
theorem okx_put {h:Nat} {e:GExpr} (x:OkX h e):(putE e).length+2≤12*2 ^ h:=by
 have hp (h:Nat):1≤2 ^ h:=Nat.one_le_two_pow
 induction x with
 | @num h n h0 h1=>
  have:=hp h
  rw[putE,if_pos (.inl rfl),List.length_append,bW_len,bW_len,Nat.pow_succ];omega
 | @name h k s hk hs=>
  have:=hp h
  have hs:=isNm_size hs
  have hb:(bT s).length≤2+s.size:=by
   rw[bT];split
   ·simp
   ·rw[List.length_append,bW_len,bl_len];omega
  rw[putE,if_neg (by omega),if_pos hk,List.length_append,bW_len,Nat.pow_succ];omega
 | @here h=>
  have:=hp h
  rw[putE,if_neg (by decide),if_neg (by decide),putL,List.append_nil,bW_len,Nat.pow_succ];omega
 | @sect h n h0 h1=>
  have:=hp h
  rw[putE,if_pos (.inr rfl),List.length_append,bW_len,bW_len,Nat.pow_succ];omega
 | @neg h a ha ih=>
  rw[putE,if_neg (by decide),if_neg (by decide),putL,putL,List.append_nil,List.length_append,bW_len,Nat.pow_succ];omega
 | @two h k a b h0 h1 ha hb iha ihb=>
  rw[putE,if_neg (by omega),if_neg (by omega),putL,putL,putL,List.append_nil,List.length_append,List.length_append,bW_len,Nat.pow_succ];omega
theorem six_put {e:GExpr} (h:okE e 1 false=true):(putE e).length≤766:=by
 have:=okx_put ((okE_six e).1 h)
 omega
def putX1 (b:List UInt8) (e:GExpr):List UInt8:=if okE e 1 false=true then b++putE e else b
theorem impl_PutX (b:List UInt8) (a:GExpr) (fa:FO a) (hb:b.length≤1099511627776):Con 47 [.ro 1 (GByte.ros b),.agg (GExpr.ro a)] (.ow 1 (GByte.ows (putX1 b a))) [none,none]:=by
 cases ho:okE a 1 false with
 | true=>
  have:=six_put ho
  have c:=impl_PutExpr b a fa.1 fa.2 (by omega)
  rw[ho] at c
  rw[putX1,ho];exact c
 | false=>
  have cO:=impl_ExprOk a fa.1 fa.2
  rw[ho] at cO
  rw[putX1,ho]
  refine con Tryz.func47 ?_
  refine ⟨[.ro],.bool false,[none],cO,trivial,fun h=>?_,fun h=>(by cases h)⟩
  have h2:=impl_joined [b] (by simp) (by simp;omega)
  refine ⟨[.ro],.ow 1 (GByte.ows [b].flatten),[none],(by show Con _ [.ro 1 [[.ro 1 (toRoRows (GByte.ros b))]]] _ _;rw[GByte.ror];exact h2),⟨GByte.nro _,trivial⟩,.of_eq (congrArg (AV.ow 1) ?_),trivial⟩
  simp
theorem spec_PutX (b:List UInt8) (a:GExpr) (fa:FO a) (hb:b.length≤1099511627776):Con 112 [.ro 1 (GByte.ros b),.agg (GExpr.ro a)] (.ow 1 (GByte.ows (putX1 b a))) [none,none]:=by
 cases ho:okE a 1 false with
 | true=>
  have:=six_put ho
  have c:=spec_PutExpr b a fa.1 fa.2 (by omega)
  rw[ho] at c
  rw[putX1,ho];exact c
 | false=>
  have cO:=spec_ExprOk a fa.1 fa.2
  rw[ho] at cO
  rw[putX1,ho]
  refine con Tryz.func112 ?_
  refine ⟨[.ro],.bool false,[none],cO,trivial,fun h=>?_,fun h=>(by cases h)⟩
  refine ⟨trivial,?_,byte_plain b,.refl _,trivial⟩
  show (0+(GByte.ros b).length)*1≤_
  rw[byte_len];omega
def BStep (b:List UInt8) (s s':List UInt8×Nat×Int):Prop:=∃ x:Int,0≤x∧x≤255∧s'.1=s.1++[w8 x]∧s'.2.1≤b.length∧Con 239 [.pb (cRow b s.2.1 s.2.2)] (.int .i64 x) [some (.pb (cRow b s'.2.1 s'.2.2))]
theorem BStep.ex (b:List UInt8) (hb:b.length≤1099511627776) (k:Nat) (j:Nat) (h:Int) (hj:j≤b.length):∃ t:List UInt8×Nat×Int,Runs (BStep b) k ([],j,h) t∧t.1.length=k∧t.2.1≤b.length:=by
 obtain ⟨t,h1,h2⟩:=runs_ex (step:=BStep b) (Q:=fun n s=>s.1.length+n=k∧s.2.1≤b.length) (fun n s q=>by
  obtain ⟨x,j',h',hx,hj',c⟩:=spec_l1Byte b hb s.2.1 s.2.2 q.2
  exact ⟨(s.1++[w8 x],j',h'),⟨x,hx.1,hx.2,rfl,hj',c⟩,by have:=q.1;simp only[List.length_append,List.length_singleton];omega,hj'⟩) k ([],j,h) ⟨by simp,hj⟩
 exact ⟨t,h1,by have:=h2.1;omega,h2.2⟩
theorem spec_l1Bytes (b:List UInt8) (hb:b.length≤1099511627776) (i:Nat) (h:Int) (hi:i≤b.length) (n:Nat) (hn:n≤1000):∃ (l:List UInt8) (j:Nat) (h':Int),l.length=n∧j≤b.length∧Con 171 [.pb (cRow b i h),.int .i64 n] (.ow 1 (GByte.ows l)) [some (.pb (cRow b j h')),none]:=by
 obtain ⟨⟨l,j',h'⟩,hr,hl,hj⟩:=BStep.ex b hb n i h hi
 dsimp only at hl hj
 refine ⟨l,j',h',hl,hj,?_⟩
 refine con Tryz.func171 ?_
 refine ⟨{p:Nat×(List UInt8×Nat×Int) // p.2.1.length+p.1=n∧Runs (BStep b) p.1 p.2 (l,j',h')},fun p=>⟨[(0,.ptr 0 0 0),(1,.int .i64 n),(5,.own 1),(6,.int .i64 p.1.2.1.length)],[(0,.box (cRow b p.1.2.2.1 p.1.2.2.2) []),(1,.rows 1 (GByte.ows p.1.2.1) [])]⟩,fun p=>p.1.1,⟨(n,[],i,h),by simp,hr⟩,?_,?_⟩
 ·exact ⟨rfl,rfl,rfl,rfl,.refl _,rfl,.refl _,trivial⟩
 ·rintro ⟨⟨k,s,j,hh⟩,hs,hr⟩
  dsimp only at hs hr⊢
  refine ⟨fun g=>?_,fun g=>?_⟩
  ·have g:=of_decide_eq_true g
   obtain ⟨k',rfl⟩:∃ k',k=k'+1:=⟨k - 1,by omega⟩
   obtain ⟨⟨s',j2,h2⟩,⟨x,x0,x1,e1,hj2,c⟩,hr2⟩:=hr
   dsimp only at e1 hj2 c
   subst e1
   have e2:IntKind.wrap .i64 ((s.length:Int)+1)=((s++[w8 x]).length:Int):=by rw[List.length_append,List.length_singleton];exact (w64 (by omega) (by omega)).trans (by omega)
   refine ⟨[.mut],.int .i64 x,[some (.pb (cRow b j2 h2))],c,trivial,trivial,(by show ((GByte.ows s).length+1)*1≤_;rw[byte_len];omega),⟨⟨trivial,trivial⟩,trivial⟩,?_⟩
   refine ⟨⟨(k',s++[w8 x],j2,h2),by dsimp only;rw[List.length_append,List.length_singleton];omega,hr2⟩,Nat.lt_succ_self _,rfl,rfl,rfl,congrArg (AV.int .i64) e2,.refl _,rfl,.of_eq ?_,trivial⟩
   have e3: [[AV.int .u8 (IntKind.wrap .u8 x)]]=GByte.ows [w8 x]:=by
    simp only[List.map_cons,List.map_nil,GByte.ro,w8_toNat,u8_mod]
   exact (congrArg (GByte.ows s++·) e3).trans (byte_app s [w8 x])
  ·have g:=of_decide_eq_false g
   have:k=0:=by omega
   subst this
   have hr:(s,j,hh)=(l,j',h'):=hr
   injection hr with r1 r2
   injection r2 with r2 r3
   subst r1;subst r2;subst r3
   exact ⟨.refl _,.refl _,trivial⟩
theorem spec_l1Some (b:List UInt8) (hb:b.length≤1099511627776) (i:Nat) (h:Int) (hi:i≤b.length):∃ (l:List UInt8) (j:Nat) (h':Int),l.length≤9∧j≤b.length∧Con 106 [.pb (cRow b i h)] (.ow 1 (GByte.ows l)) [some (.pb (cRow b j h'))]:=by
 obtain ⟨y,j1,h1,hy,hj1,c1⟩:=spec_l1Int b hb i h hi [0,1,2,5,9] (by simp) (by simp)
 have hy2:0≤y∧y≤9:=by
  simp only[List.mem_cons,List.not_mem_nil,or_false] at hy
  omega
 obtain ⟨n,rfl⟩:∃ n:Nat,y=n:=⟨y.toNat,by omega⟩
 obtain ⟨l,j2,h2,hl,hj2,c2⟩:=spec_l1Bytes b hb j1 h1 hj1 n (by omega)
 refine ⟨l,j2,h2,by omega,hj2,?_⟩
 refine con Tryz.func106 ?_
 exact ⟨[.mut,.frz],.int .i64 n,[_,none],c1,trivial,[.mut,.ro],.ow 1 (GByte.ows l),[_,none],c2,trivial,.refl _,.refl _,trivial⟩
end Go.Proofs.VI
