/- Contracts of functions, and what they rest on: l17dr l17tb. -/
import Derived.Test.YtjlonhiojgljcaaGreatS15
set_option linter.unusedVariables false
set_option linter.unusedSimpArgs false
set_option maxRecDepth 10000
set_option maxHeartbeats 4000000
namespace Go.Proofs.VI
open Go
theorem ows_ro1 (l:List UInt8):Sim (.ow 1 (GByte.ows l)) (.ro 1 (GByte.ros l)):= .trans (.frz _) (.of_eq (congrArg (AV.ro 1) (GByte.roo l)))
theorem w8_row (x:Int): [AV.int .u8 (IntKind.wrap .u8 x)]=GByte.ow (w8 x):=by
 simp only[GByte.ow,GByte.ro,w8_toNat,u8_mod]
theorem spec_l1Bend (b:List UInt8) (hb:b.length≤1099511627776) (i:Nat) (h:Int) (hi:i≤b.length) (x:List UInt8) (hx:x.length≤1099511627):∃ (y:List UInt8) (j:Nat) (h':Int),y.length≤x.length+1∧j≤b.length∧Con 111 [.pb (cRow b i h),.ow 1 (GByte.ows x)] (.ro 1 (GByte.ros y)) [some (.pb (cRow b j h')),none]:=by
 have lx:(GByte.ows x).length=x.length:=byte_len x
 by_cases h0:x.length=0
 ·refine ⟨x,i,h,by omega,hi,?_⟩
  refine con Tryz.func111 ?_
  refine ⟨fun _=>?_,fun g=>absurd (show ((GByte.ows x).length:Int)=0 by rw[lx,h0];rfl) (of_decide_eq_false g)⟩
  exact ⟨ows_ro1 _,.refl _,trivial⟩
 have hne:¬ ((GByte.ows x).length:Int)=0:=by rw[lx];omega
 obtain ⟨z,j1,h1,hz,hj1,c1⟩:=spec_l1Below b hb i h hi 5 (by decide)
 by_cases z0:z=0
 ·subst z0
  obtain ⟨k,j2,h2,hk,hj2,c2⟩:=spec_l1Below b hb j1 h1 hj1 (x.length:Int) (by omega)
  obtain ⟨k,rfl⟩:∃ q:Nat,k=q:=⟨k.toNat,by omega⟩
  obtain ⟨v,j3,h3,hv,hj3,c3⟩:=spec_l1Int b hb j2 h2 hj2 [0,1,2,127,128,255] (by simp) (by simp)
  have hk2:k < x.length:=by omega
  have hrow:(GByte.ows x)[(k:Int).toNat]?=some (GByte.ow x[k]):=by rw[Int.toNat_natCast];exact map_get _ _ hk2
  refine ⟨x.set k (w8 v),j3,h3,by rw[List.length_set];omega,hj3,?_⟩
  refine con Tryz.func111 ?_
  refine ⟨fun g=>absurd (of_decide_eq_true g) hne,fun _=>?_⟩
  refine ⟨[.mut,.ro],.int .i64 0,[_,none],c1,trivial,fun _=>?_,fun g=>absurd rfl (of_decide_eq_false g)⟩
  refine ⟨[.mut,.ro],.int .i64 k,[_,none],by rw[lx];exact c2,trivial,?_⟩
  refine ⟨[.mut,.frz],.int .i64 v,[_,none],c3,trivial,Int.natCast_nonneg _,by rw[lx];omega,_,hrow,?_⟩
  refine ⟨.trans (.of_eq (congrArg (AV.ow 1) ?_)) (ows_ro1 _),.refl _,trivial⟩
  rw[Int.toNat_natCast]
  exact (congrArg (fun z=>(GByte.ows x).set k z) (w8_row v)).trans (List.map_set (f:=GByte.ow)).symm
 by_cases z1:z=1
 ·subst z1
  refine ⟨x++[3],j1,h1,by simp,hj1,?_⟩
  refine con Tryz.func111 ?_
  refine ⟨fun g=>absurd (of_decide_eq_true g) hne,fun _=>?_⟩
  refine ⟨[.mut,.ro],.int .i64 1,[_,none],c1,trivial,fun g=>absurd (of_decide_eq_true g) (by decide),fun _=>⟨fun _=>?_,fun g=>absurd rfl (of_decide_eq_false g)⟩⟩
  refine ⟨trivial,(by show ((GByte.ows x).length+1)*1≤_;rw[lx];omega),⟨⟨trivial,trivial⟩,trivial⟩,?_⟩
  exact ⟨.trans (.of_eq (congrArg (AV.ow 1) (byte_app x [3]))) (ows_ro1 _),.refl _,trivial⟩
 by_cases z2:z=2
 ·subst z2
  obtain ⟨k,j2,h2,hk,hj2,c2⟩:=spec_l1Below b hb j1 h1 hj1 (x.length:Int) (by omega)
  obtain ⟨k,rfl⟩:∃ q:Nat,k=q:=⟨k.toNat,by omega⟩
  refine ⟨x.take k,j2,h2,by rw[List.length_take];omega,hj2,?_⟩
  refine con Tryz.func111 ?_
  refine ⟨fun g=>absurd (of_decide_eq_true g) hne,fun _=>?_⟩
  refine ⟨[.mut,.ro],.int .i64 2,[_,none],c1,trivial,fun g=>absurd (of_decide_eq_true g) (by decide),fun _=>⟨fun g=>absurd (of_decide_eq_true g) (by decide),fun _=>⟨fun _=>?_,fun g=>absurd rfl (of_decide_eq_false g)⟩⟩⟩
  refine ⟨[.mut,.ro],.int .i64 k,[some (.pb (cRow b j2 h2)),none],by rw[lx];exact c2,trivial,Int.natCast_nonneg _,by rw[lx];omega,?_⟩
  refine ⟨.trans (.of_eq (congrArg (AV.ow 1) ?_)) (ows_ro1 _),.refl _,trivial⟩
  rw[Int.toNat_natCast,Nat.sub_zero,List.drop_zero]
  exact (List.map_take (f:=GByte.ow)).symm
 ·refine ⟨x,j1,h1,by omega,hj1,?_⟩
  refine con Tryz.func111 ?_
  refine ⟨fun g=>absurd (of_decide_eq_true g) hne,fun _=>?_⟩
  refine ⟨[.mut,.ro],.int .i64 z,[_,none],c1,trivial,fun g=>absurd (of_decide_eq_true g) z0,fun _=>⟨fun g=>absurd (of_decide_eq_true g) z1,fun _=>⟨fun g=>absurd (of_decide_eq_true g) z2,fun _=>?_⟩⟩⟩
  exact ⟨ows_ro1 _,.refl _,trivial⟩
theorem spec_l1At (b:List UInt8) (hb:b.length≤1099511627776) (i:Nat) (h:Int) (hi:i≤b.length) (x:List UInt8) (hx:x.length≤1099511627):∃ (y:Int) (j:Nat) (h':Int),(-1≤y∧y≤9223372036854775807)∧j≤b.length∧Con 114 [.pb (cRow b i h),.ro 1 (GByte.ros x)] (.int .i64 y) [some (.pb (cRow b j h')),none]:=by
 have lx:(GByte.ros x).length=x.length:=byte_len x
 obtain ⟨k,j1,h1,hk,hj1,c1⟩:=spec_l1Below b hb i h hi ((x.length:Int)+1) (by omega)
 obtain ⟨v,j2,h2,hv,hj2,c2⟩:=spec_l1Int b hb j1 h1 hj1 [0,0,0,((GByte.ros x).length:Int),k,-1,9223372036854775807] (by simp) (by simp)
 have e1:IntKind.wrap .i64 (((GByte.ros x).length:Int)+1)=(x.length:Int)+1:=by rw[lx];exact w64 (by omega) (by omega)
 refine ⟨v,j2,h2,?_,hj2,?_⟩
 ·simp only[List.mem_cons,List.not_mem_nil,or_false] at hv
  rw[lx] at hv
  omega
 ·refine con Tryz.func114 ?_
  refine ⟨[.mut,.ro],.int .i64 k,[_,none],by rw[e1];exact c1,trivial,?_⟩
  exact ⟨[.mut,.frz],.int .i64 v,[_,none],c2,trivial,.refl _,.refl _,trivial⟩
theorem spec_DrawPutExpr (b:List UInt8) (hb:b.length≤1099511627776):∃ (x:List UInt8) (e:GExpr),x.length≤9∧FO e∧Con 46 [.ro 1 (GByte.ros b)] (.tup [.ro 1 (GByte.ros x),.agg (GExpr.ro e)]) [none]:=by
 obtain ⟨h0,c0⟩:=spec_l1New b hb
 obtain ⟨x,j1,h1,hx,hj1,c1⟩:=spec_l1Some b hb 0 h0 (Nat.zero_le _)
 obtain ⟨e,j2,h2,fe,hj2,c2⟩:=spec_l10Any b hb j1 h1 hj1
 refine ⟨x,e,hx,fe,?_⟩
 refine con Tryz.func46 ?_
 refine ⟨[.ro],.pb (cRow b 0 h0),[none],c0,trivial,?_⟩
 refine ⟨[.mut],.ow 1 (GByte.ows x),[_],c1,trivial,[.mut],.agg (GExpr.ro e),[_],c2,trivial,?_⟩
 exact ⟨.tup (.cons (ows_ro1 x) (.refl _)),trivial⟩
theorem spec_DrawGetExpr (b:List UInt8) (hb:b.length≤1099511627776):∃ (x:List UInt8) (y:Int),x.length≤1000∧(-1≤y∧y≤9223372036854775807)∧Con 48 [.ro 1 (GByte.ros b)] (.tup [.ro 1 (GByte.ros x),.int .i64 y]) [none]:=by
 obtain ⟨h0,c0⟩:=spec_l1New b hb
 obtain ⟨e,j1,h1,he,hj1,c1⟩:=spec_l10Draw b hb false 3 (by decide) 0 h0 (Nat.zero_le _)
 have fe:=fo_okx he
 have cP:=spec_PutX [] e fe (by simp)
 have hp:(putX1 [] e).length≤766:=by
  rw[putX1];split
  ·rename_i o;rw[List.nil_append];exact six_put o
  ·simp
 obtain ⟨x,j2,h2,hx,hj2,c2⟩:=spec_l1Bend b hb j1 h1 hj1 (putX1 [] e) (by omega)
 obtain ⟨y,j3,h3,hy,hj3,c3⟩:=spec_l1At b hb j2 h2 hj2 x (by omega)
 refine ⟨x,y,by omega,hy,?_⟩
 refine con Tryz.func48 ?_
 refine ⟨[.ro],.pb (cRow b 0 h0),[none],c0,trivial,?_⟩
 refine ⟨[.mut,.ro,.ro],.agg (GExpr.ro e),[some (.pb (cRow b j1 h1)),none,none],.nba rfl c1,trivial,?_⟩
 refine ⟨[.frz,.ro],.ow 1 (GByte.ows (putX1 [] e)),[none,none],cP,trivial,?_⟩
 refine ⟨[.mut,.mv],.ro 1 (GByte.ros x),[some (.pb (cRow b j2 h2)),none],c2,trivial,?_⟩
 refine ⟨[.mut,.ro],.int .i64 y,[some (.pb (cRow b j3 h3)),none],c3,trivial,?_⟩
 exact ⟨.refl _,trivial⟩
theorem spec_DrawSameObj (b:List UInt8) (hb:b.length≤1099511627776):∃ (x y:GObj),AnyO x∧AnyO y∧Con 53 [.ro 1 (GByte.ros b)] (.tup [.agg (GObj.ro x),.agg (GObj.ro y)]) [none]:=by
 obtain ⟨h0,c0⟩:=spec_l1New b hb
 obtain ⟨x,j1,h1,gx,hj1,c1⟩:=spec_l16Any b hb 0 h0 (Nat.zero_le _)
 obtain ⟨o,j2,h2,hj2,c2⟩:=spec_l1Once b hb j1 h1 hj1 2 (by decide)
 have n1:=gx.nsect
 have n2:=gx.nglob
 cases o with
 | true=>
  have cC:=Contract.sim (fun o ho=>by simpa using ho) (obR_ro x) (spec_l16Copy x gx.fit (by omega) (by omega) (fun s hs=>by have:=(gx.sects s hs).2.1;omega))
  refine ⟨x,x,gx,gx,?_⟩
  refine con Tryz.func53 ?_
  refine ⟨[.ro],.pb (cRow b 0 h0),[none],c0,trivial,?_⟩
  refine ⟨[.mut],.agg (GObj.ro x),[_],c1,trivial,?_⟩
  refine ⟨[.mut,.ro],.bool true,[_,none],c2,trivial,fun _=>?_,fun g=>(by cases g)⟩
  refine ⟨[.ro],.agg (GObj.ro x),[none],cC,trivial,by kernel_rfl,?_⟩
  exact ⟨.refl _,trivial⟩
 | false=>
  obtain ⟨y,j3,h3,gy,hj3,c3⟩:=spec_l16Any b hb j2 h2 hj2
  refine ⟨x,y,gx,gy,?_⟩
  refine con Tryz.func53 ?_
  refine ⟨[.ro],.pb (cRow b 0 h0),[none],c0,trivial,?_⟩
  refine ⟨[.mut],.agg (GObj.ro x),[_],c1,trivial,?_⟩
  refine ⟨[.mut,.ro],.bool false,[_,none],c2,trivial,fun g=>(by cases g),fun _=>?_⟩
  refine ⟨[.mut],.agg (GObj.ro y),[_],c3,trivial,by kernel_rfl,?_⟩
  exact ⟨.refl _,trivial⟩
theorem getE_back {b:List UInt8} {p q:Int} {e:GExpr} (h:getE b p=some (e,q)):okE e 1 false=true∧At b p (putE e)∧q=p+(putE e).length:=by
 rw[getE] at h
 split at h
 ·cases h
 ·rename_i h1
  split at h
  ·rename_i h2
   injection h with h
   injection h with h3 h4
   rcases hx:exprO b 6 p with _ | ⟨y,r⟩
   ·exact absurd ((rep_expr false b 6 p false).1 (.inr hx)) h1
   ·have h5:=(rep_expr false b 6 p false).2 y r rfl hx
    rw[h5] at h2 h3 h4
    dsimp only at h2 h3 h4
    subst h3;subst h4
    obtain ⟨a1,a2⟩:=back_expr b 6 p y r hx
    exact ⟨h2,a1,a2⟩
  ·cases h
theorem getE_trip {b:List UInt8} {p:Int} {e:GExpr} (o:okE e 1 false=true) (h:At b p (putE e)):getE b p=some (e,p+(putE e).length):=by
 have h1:=trip_expr ((okE_six e).1 o) p h
 have h2:=(rep_expr false b 6 p false).2 e _ rfl h1
 rw[getE,h2]
 dsimp only
 rw[if_neg (by decide),if_pos o]
theorem at_take {b x:List UInt8} {p:Int} (h:At b p x):(b.drop p.toNat).take x.length=x:=by
 obtain ⟨a,r,rfl,rfl⟩:=h
 rw[Int.toNat_natCast,List.drop_left,List.take_left]
theorem sameE_rfl:∀ e:GExpr,sameE e e=true:=by
 refine GExpr.ind fun a ih=>?_
 obtain ⟨k,n,s,l⟩:=a
 have hl:∀ l:List GExpr,(∀ x∈l,sameE x x=true)→sameL l l=true:=fun l=>by
  induction l with
  | nil=>intro _;rfl
  | cons x l ih2=>
   intro h
   simp only[sameL,h x List.mem_cons_self,ih2 fun y hy=>h y (List.mem_cons_of_mem _ hy),Bool.and_self]
 have:=hl l ih
 simp[sameE,GExpr.k,GExpr.n,GExpr.s,GExpr.l,this]
def gER (x:Option (GExpr×Int)):AV:= .tup [.agg (GExpr.ro (gE x).1),.int .i64 (gE x).2.1,.bool (gE x).2.2]
theorem impl_GetX (b:List UInt8) (p:Int) (hb:b.length≤1099511627776) (hp: -9223372036854775808≤p∧p≤9223372036854775807):Con 49 [.ro 1 (GByte.ros b),.int .i64 p] (gER (getE b p)) [none,none]:=
 Contract.sim (fun o ho=>by simpa using ho) (.tup (.cons (simOwRo _) (.refl _))) (impl_GetExpr b p hb hp)
theorem spec_GetX (b:List UInt8) (p:Int) (hb:b.length≤1099511627776) (hp: -9223372036854775808≤p∧p≤9223372036854775807):Con 50 [.ro 1 (GByte.ros b),.int .i64 p] (gER (getE b p)) [none,none]:=
 Contract.sim (fun o ho=>by simpa using ho) (.tup (.cons (simOwRo _) (.refl _))) (spec_GetExpr b p hb hp)
theorem law_TermBytes (code:List UInt8) (hl:code.length≤9223372036854775807) (ho:∀ y∈code,GByte.ok y):Con 9 [.ro 1 (GByte.ros code)] (.bool true) [none]:=by
 have cb:=laws_big' code
 refine con Tryz.func9 ?_
 by_cases g:1048576 < code.length
 ·rw[decide_eq_true g] at cb
  refine ⟨[.ro],.bool true,[none],cb,trivial,fun _=>?_,fun h=>(by cases h)⟩
  exact ⟨.refl _,trivial⟩
 rw[decide_eq_false g] at cb
 have hb:code.length≤1099511627776:=by omega
 obtain ⟨b,e,lb,fe,cD⟩:=spec_DrawPutExpr code hb
 obtain ⟨c,i,lc,hi,cG⟩:=spec_DrawGetExpr code hb
 obtain ⟨s,t,gs,gt,cS⟩:=spec_DrawSameObj code hb
 have cP:=impl_PutX b e fe (by omega)
 have cI:=impl_GetX c i (by omega) (by omega)
 have cJ:=spec_GetX c i (by omega) (by omega)
 have cO:=spec_ExprOk e fe.1 fe.2
 have s1:=impl_SameObj s t gs.fit gt.fit
 have s2:=spec_SameObj s t gs.fit gt.fit
 refine ⟨[.ro],.bool false,[none],cb,trivial,fun h=>(by cases h),fun _=>?_⟩
 refine ⟨[.ro],.tup [.ro 1 (GByte.ros b),.agg (GExpr.ro e)],[none],cD,trivial,?_⟩
 refine ⟨[.ro,.ro],.ow 1 (GByte.ows (putX1 b e)),[none,none],cP,trivial,?_⟩
 refine ⟨[.ro],.tup [.ro 1 (GByte.ros c),.int .i64 i],[none],cG,trivial,?_⟩
 refine ⟨[.ro,.ro],.tup [.agg (GExpr.ro (gE (getE c i)).1),.int .i64 (gE (getE c i)).2.1,.bool (gE (getE c i)).2.2],[none,none],cI,trivial,?_⟩
 refine ⟨[.ro,.ro],.tup [.agg (GExpr.ro (gE (getE c i)).1),.int .i64 (gE (getE c i)).2.1,.bool (gE (getE c i)).2.2],[none,none],cJ,trivial,?_⟩
 have sE:=impl_SameExpr e e fe.1 fe.1
 rw[sameE_rfl] at sE
 have hX:okE e 1 false=true→Con 49 [.ro 1 (GByte.ros (putX1 b e)),.int .i64 (b.length:Int)] (.tup [.agg (GExpr.ow e),.int .i64 ((b.length:Int)+(putE e).length),.bool true]) [none,none]∧(b.length:Int)+(putE e).length=((GByte.ows (putX1 b e)).length:Int):=fun h=>by
  have hs:=six_put h
  have e3:putX1 b e=b++putE e:=by rw[putX1,if_pos h]
  have e5:=getE_trip (b:=putX1 b e) (p:=(b.length:Int)) h ⟨b,[],by rw[e3,List.append_nil],rfl⟩
  have cX:=impl_GetExpr (putX1 b e) (b.length:Int) (by rw[e3,List.length_append];omega) (by omega)
  rw[e5] at cX
  exact ⟨cX,by rw[byte_len,e3,List.length_append];omega⟩
 rcases hg:getE c i with _ | ⟨y,q⟩
 ·refine ⟨fun h1=>⟨fun h2=>(by cases h2),fun h2=>⟨by kernel_rfl,?_⟩⟩,fun h1=>(by cases h1)⟩
  refine ⟨[.ro],.bool (okE e 1 false),[none],cO,trivial,fun h3=>?_,fun h3=>?_⟩<;>simp only[Bool.not_eq_true',Bool.not_eq_false'] at h3
  ·have e3:putX1 b e=b:=by rw[putX1,if_neg (by rw[h3];decide)]
   refine ⟨[.ro,.ro],.bool (decide (putX1 b e=b)),[none,none],by rw[GByte.roo];exact laws_sameBytes _ _ (by rw[e3];omega) (by omega),⟨trivial,trivial⟩,?_⟩
   exact ⟨.of_eq (congrArg AV.bool (decide_eq_true e3)),trivial⟩
  ·obtain ⟨cX,e4⟩:=hX h3
   refine ⟨[.ro,.ro],.tup [.agg (GExpr.ow e),.int .i64 ((b.length:Int)+(putE e).length),.bool true],[none,none],by rw[GByte.roo,byte_len];exact cX,⟨⟨⟨trivial,trivial,trivial,GExpr.noRo_ows _ fun x _=>GExpr.noRo_ow x,trivial⟩,trivial,trivial,trivial⟩,trivial⟩,?_⟩
   refine ⟨[.ro],.tup [.agg (GObj.ro s),.agg (GObj.ro t)],[none],cS,trivial,?_⟩
   refine ⟨fun _=>?_,fun h=>(by cases h)⟩
   refine ⟨[.ro,.ro],.bool true,[none,none],by rw[GExpr.roo];exact sE,⟨trivial,trivial⟩,fun _=>⟨fun h4=>?_,fun h4=>?_⟩,fun h=>(by cases h)⟩
   ·refine ⟨[.ro,.ro],.bool (sameObj s t),[none,none],s1,trivial,[.ro,.ro],.bool (sameObj s t),[none,none],s2,trivial,by kernel_rfl,?_⟩
    exact ⟨.of_eq (congrArg AV.bool (by simp)),trivial⟩
   ·exact absurd e4 (of_decide_eq_false h4)
 ·obtain ⟨o1,a1,e1⟩:=getE_back hg
  have fy:FO y:=okx_fo ((okE_six y).1 o1)
  have hin:=a1.inb
  have h6:=six_put o1
  have e2:putX1 [] y=putE y:=by rw[putX1,if_pos o1,List.nil_append]
  have cY:=impl_PutX [] y fy (by simp)
  have e7:((GByte.ros c).drop i.toNat).take (q.toNat - i.toNat)=GByte.ros (putX1 [] y):=by
   rw[GByte.ros_eq,GByte.ros_eq,←List.map_drop,←List.map_take,e2]
   exact congrArg (List.map GByte.ro) (by rw[show q.toNat - i.toNat=(putE y).length by omega];exact at_take a1)
  have cB:=laws_sameBytes (putX1 [] y) (putX1 [] y) (by rw[e2];omega) (by rw[e2];omega)
  refine ⟨fun h1=>⟨fun h2=>?_,fun h2=>(by cases h2)⟩,fun h1=>(by cases h1)⟩
  refine ⟨[.ro,.ro],.ow 1 (GByte.ows (putX1 [] y)),[none,none],cY,⟨GByte.nro _,trivial⟩,?_⟩
  refine ⟨hin.1,by show i≤q;omega,by rw[byte_len];show q≤_;omega,?_⟩
  refine ⟨[.ro,.ro],.bool true,[none,none],?_,⟨trivial,trivial⟩,by kernel_rfl,?_⟩
  ·have cB2:Con 51 [.ro 1 (GByte.ros (putX1 [] y)),.ro 1 (GByte.ros (putX1 [] y))] (.bool true) [none,none]:=by
    rw[decide_eq_true rfl] at cB;exact cB
   have e8:List.take ((gE (some (y,q))).2.1.toNat - i.toNat) (List.drop i.toNat (GByte.ros c))=GByte.ros (putX1 [] y):=e7
   rw[GByte.roo,e8];exact cB2
  refine ⟨fun h=>(by cases h),fun _=>?_⟩
  refine ⟨[.ro],.bool (okE e 1 false),[none],cO,trivial,fun h3=>?_,fun h3=>?_⟩<;>simp only[Bool.not_eq_true',Bool.not_eq_false'] at h3
  ·have e3:putX1 b e=b:=by rw[putX1,if_neg (by rw[h3];decide)]
   refine ⟨[.ro,.ro],.bool (decide (putX1 b e=b)),[none,none],by rw[GByte.roo];exact laws_sameBytes _ _ (by rw[e3];omega) (by omega),⟨trivial,trivial⟩,?_⟩
   exact ⟨.of_eq (congrArg AV.bool (decide_eq_true e3)),trivial⟩
  ·obtain ⟨cX,e4⟩:=hX h3
   refine ⟨[.ro,.ro],.tup [.agg (GExpr.ow e),.int .i64 ((b.length:Int)+(putE e).length),.bool true],[none,none],by rw[GByte.roo,byte_len];exact cX,⟨⟨⟨trivial,trivial,trivial,GExpr.noRo_ows _ fun x _=>GExpr.noRo_ow x,trivial⟩,trivial,trivial,trivial⟩,trivial⟩,?_⟩
   refine ⟨[.ro],.tup [.agg (GObj.ro s),.agg (GObj.ro t)],[none],cS,trivial,?_⟩
   refine ⟨fun _=>?_,fun h=>(by cases h)⟩
   refine ⟨[.ro,.ro],.bool true,[none,none],by rw[GExpr.roo];exact sE,⟨trivial,trivial⟩,fun _=>⟨fun h4=>?_,fun h4=>?_⟩,fun h=>(by cases h)⟩
   ·refine ⟨[.ro,.ro],.bool (sameObj s t),[none,none],s1,trivial,[.ro,.ro],.bool (sameObj s t),[none,none],s2,trivial,by kernel_rfl,?_⟩
    exact ⟨.of_eq (congrArg AV.bool (by simp)),trivial⟩
   ·exact absurd e4 (of_decide_eq_false h4)
end Go.Proofs.VI
