/- Contracts of functions, and what they rest on: l17put. -/
import Derived.Test.YtjlonhiojgljcaaGreatA1
import Derived.Test.YtjlonhiojgljcaaGreatB4
set_option linter.unusedVariables false
set_option linter.unusedSimpArgs false
set_option maxRecDepth 10000
set_option maxHeartbeats 4000000
namespace Go.Proofs.VI
open Go
mutual
def putE:GExpr→List UInt8
 | .mk k n s l=>bW k++(if k=1∨k=11 then bW n else if k=2∨k=12 then bT s else putL l)
def putL:List GExpr→List UInt8
 | []=>[]
 | e::l=>putE e++putL l
end
theorem putL_eq (l:List GExpr):putL l=(l.map putE).flatten:=by
 induction l with
 | nil=>rfl
 | cons e l ih=>rw[putL,ih];rfl
theorem putE_un (a:GExpr):putE a=bW a.k++(if a.k=1∨a.k=11 then bW a.n else if a.k=2∨a.k=12 then bT a.s else (a.l.map putE).flatten):=by
 cases a;rw[putE,putL_eq];rfl
theorem flat_take {α:Type} (f:α→List UInt8) (l:List α) (i:Nat) (h:i < l.length):((l.take (i+1)).map f).flatten=((l.take i).map f).flatten++f l[i]:=by
 rw[List.take_add_one,List.getElem?_eq_getElem h,List.map_append,List.flatten_append];simp
theorem flat_le {α:Type} (f:α→List UInt8) (l:List α) (i:Nat):((l.take i).map f).flatten.length≤(l.map f).flatten.length:=by
 have:=congrArg List.length (congrArg List.flatten (congrArg (List.map f) (List.take_append_drop i l)))
 rw[List.map_append,List.flatten_append,List.length_append] at this
 omega
theorem impl_putExpr:∀ (a:GExpr) (fa:GExpr.fit a) (oa:GExpr.ok a) (hp:(putE a).length≤70368744100000),Con 110 [.agg (GExpr.ro a)] (.ow 1 (GByte.ows (putE a))) [none]:=by
 refine GExpr.ind fun a ih fa oa hp=>?_
 have ua:=GExpr.fit_un fa
 have va:=GExpr.ok_un oa
 have la:=ros_len a.l
 have he:=putE_un a
 refine con Tryz.func110 ?_
 repeat' (first | refine And.intro (fun (h:_=true)=>?_) (fun (h:_=false)=>?_) | refine And.intro (fun (h:_=false)=>?_) (fun (h:_=true)=>?_) | refine And.intro (show regOk _ _=true from by kernel_rfl) ?_ | refine ⟨[.ro,.ro],.ow 1 (GByte.ows (bW a.k)),[none,none],.le (.cons (.nilr 1) (.refl _)) (impl_PutW [] a.k (by simp)),trivial,?_⟩ | refine ⟨[.ro,.ro],.ow 1 _,[none,none],(by simp only[GByte.roo,GInt.roo,GString.roo,GExpr.roo,GExpr.toRo_ow,toRo,toRoL,toRoRows];exact impl_PutW (bW a.k) a.n (by simp[bW])),(by first | exact trivial | exact ⟨trivial,trivial⟩ | exact ⟨GByte.nro _,trivial⟩ | exact ⟨GExpr.noRo_ow _,trivial⟩ | exact ⟨GExpr.nro _,trivial⟩ | exact ⟨GInt.nro _,trivial⟩ | exact ⟨GString.nro _,trivial⟩),?_⟩ | refine ⟨[.ro,.ro],.ow 1 _,[none,none],(by simp only[GByte.roo,GInt.roo,GString.roo,GExpr.roo,GExpr.toRo_ow,toRo,toRoL,toRoRows];exact impl_PutText (bW a.k) a.s (by simp[bW]) va.2.2.1),(by first | exact trivial | exact ⟨trivial,trivial⟩ | exact ⟨GByte.nro _,trivial⟩ | exact ⟨GExpr.noRo_ow _,trivial⟩ | exact ⟨GExpr.nro _,trivial⟩ | exact ⟨GInt.nro _,trivial⟩ | exact ⟨GString.nro _,trivial⟩),?_⟩ | refine And.intro (Sim.of_eq (congrArg (AV.ow 1) (congrArg GByte.ows ?_))) trivial | fail)
 ·simp_all
 ·simp_all
 ·simp_all
 ·simp_all
 ·rename_i h1 h11 h2;have h12:=h;clear h
  have he:putE a=bW a.k++(a.l.map putE).flatten:=by rw[he,if_neg,if_neg]<;>simp_all
  clear h1 h11 h2 h12
  rw[he] at hp
  simp only[List.length_append] at hp
  refine ⟨{i:Nat // i≤a.l.length},fun i=>⟨[(3,.own 0),(26,.ro 4 (GExpr.ros a.l)),(27,.int .i64 a.l.length),(28,.int .i64 i.1)],[(0,.rows 1 (GByte.ows (bW a.k++((a.l.take i.1).map putE).flatten)) [])]⟩,fun i=>a.l.length - i.1,⟨0,by omega⟩,?_,?_⟩
  ·exact ⟨rfl,congrArg (AV.int .i64) (by rw[la]),rfl,rfl,.of_eq (congrArg GByte.ows (List.append_nil _).symm),trivial⟩
  ·rintro ⟨i,hi⟩
   dsimp only
   refine ⟨fun h=>?_,fun h=>⟨.of_eq (congrArg (AV.ow 1) ?_),trivial⟩⟩<;>simp only[decide_eq_true_eq,decide_eq_false_iff_not] at h
   ·have hi:i < a.l.length:=by omega
    have e:=flat_take putE a.l i hi
    have hle:=flat_le putE a.l (i+1)
    rw[e,List.length_append] at hle
    refine ⟨Int.natCast_nonneg _,_,ros_get _ _ hi,?_⟩
    refine ⟨[.ro],.ow 1 (GByte.ows (putE a.l[i])),[none],ih _ (List.getElem_mem hi) (ua.2 _ (List.getElem_mem hi)) (va.2.2.2.2 _ (List.getElem_mem hi)) (by omega),trivial,trivial,?_,byte_plain _,?_⟩
    ·show ((GByte.ows (bW a.k++((a.l.take i).map putE).flatten)).length+(GByte.ows (putE a.l[i])).length)*1≤_
     rw[byte_len,byte_len,List.length_append];omega
    refine ⟨⟨i+1,by omega⟩,by dsimp only;omega,rfl,rfl,congrArg (AV.int .i64) (w64 (by omega) (by omega)),rfl,.of_eq ?_,trivial⟩
    dsimp only
    rw[e,←List.append_assoc,←byte_app (bW a.k++_)]
   ·rw[he,List.take_of_length_le (by omega)]
theorem spec_l17Put:∀ (a:GExpr) (b:List UInt8) (fa:GExpr.fit a) (oa:GExpr.ok a) (hp:b.length+(putE a).length≤70368744100000),Con 140 [.ro 1 (GByte.ros b),.agg (GExpr.ro a)] (.ow 1 (GByte.ows (b++putE a))) [none,none]:=by
 refine GExpr.ind fun a ih b fa oa hp=>?_
 have ua:=GExpr.fit_un fa
 have va:=GExpr.ok_un oa
 have la:=ros_len a.l
 have he:=putE_un a
 have hk:(b++bW a.k).length≤70368744100000:=by
  rw[he] at hp
  simp only[List.length_append] at hp⊢;omega
 refine con Tryz.func140 ?_
 repeat' (first | refine And.intro (fun (h:_=true)=>?_) (fun (h:_=false)=>?_) | refine And.intro (fun (h:_=false)=>?_) (fun (h:_=true)=>?_) | refine And.intro (show regOk _ _=true from by kernel_rfl) ?_ | refine ⟨[.ro,.ro],.ow 1 _,[none,none],spec_PutW b a.k (by omega),(by first | exact trivial | exact ⟨trivial,trivial⟩ | exact ⟨GByte.nro _,trivial⟩ | exact ⟨GExpr.noRo_ow _,trivial⟩ | exact ⟨GExpr.nro _,trivial⟩ | exact ⟨GInt.nro _,trivial⟩ | exact ⟨GString.nro _,trivial⟩),?_⟩ | refine ⟨[.ro,.ro],.ow 1 _,[none,none],(by simp only[GByte.roo,GInt.roo,GString.roo,GExpr.roo,GExpr.toRo_ow,toRo,toRoL,toRoRows];exact spec_PutW (b++bW a.k) a.n (by omega)),(by first | exact trivial | exact ⟨trivial,trivial⟩ | exact ⟨GByte.nro _,trivial⟩ | exact ⟨GExpr.noRo_ow _,trivial⟩ | exact ⟨GExpr.nro _,trivial⟩ | exact ⟨GInt.nro _,trivial⟩ | exact ⟨GString.nro _,trivial⟩),?_⟩ | refine ⟨[.ro,.ro],.ow 1 _,[none,none],(by simp only[GByte.roo,GInt.roo,GString.roo,GExpr.roo,GExpr.toRo_ow,toRo,toRoL,toRoRows];exact spec_PutText (b++bW a.k) a.s (by omega) va.2.2.1),(by first | exact trivial | exact ⟨trivial,trivial⟩ | exact ⟨GByte.nro _,trivial⟩ | exact ⟨GExpr.noRo_ow _,trivial⟩ | exact ⟨GExpr.nro _,trivial⟩ | exact ⟨GInt.nro _,trivial⟩ | exact ⟨GString.nro _,trivial⟩),?_⟩ | refine And.intro (Sim.of_eq (congrArg (AV.ow 1) (congrArg GByte.ows ?_))) trivial | fail)
 ·simp_all
 ·simp_all
 ·simp_all
 ·simp_all
 ·rename_i h1 h11 h2;have h12:=h;clear h
  have he:putE a=bW a.k++(a.l.map putE).flatten:=by rw[he,if_neg,if_neg]<;>simp_all
  clear h1 h11 h2 h12
  rw[he] at hp
  simp only[List.length_append] at hp
  refine ⟨{i:Nat // i≤a.l.length},fun i=>⟨[(0,.own 0),(3,.ptr 1 0 0),(5,.int .i64 i.1)],[(0,.rows 1 (GByte.ows (b++(bW a.k++((a.l.take i.1).map putE).flatten))) []),(1,.box (GExpr.ro a) [])]⟩,fun i=>a.l.length - i.1,⟨0,by omega⟩,?_,?_⟩
  ·exact ⟨rfl,rfl,rfl,rfl,.of_eq (congrArg GByte.ows (by simp)),.refl _,trivial⟩
  ·rintro ⟨i,hi⟩
   dsimp only
   refine ⟨fun h=>?_,fun h=>⟨.of_eq (congrArg (AV.ow 1) ?_),trivial⟩⟩<;>simp only[la,decide_eq_true_eq,decide_eq_false_iff_not] at h
   ·have hi:i < a.l.length:=by omega
    have e:=flat_take putE a.l i hi
    have hle:=flat_le putE a.l (i+1)
    rw[e,List.length_append] at hle
    refine ⟨Int.natCast_nonneg _,_,ros_get _ _ hi,?_⟩
    refine ⟨[.ro,.ro],.ow 1 (GByte.ows ((b++(bW a.k++((a.l.take i).map putE).flatten))++putE a.l[i])),[none,none],?_,⟨GByte.nro _,trivial⟩,?_⟩
    ·rw[GByte.roo]
     exact ih _ (List.getElem_mem hi) _ (ua.2 _ (List.getElem_mem hi)) (va.2.2.2.2 _ (List.getElem_mem hi)) (by simp only[List.length_append];omega)
    refine ⟨⟨i+1,by omega⟩,by dsimp only;omega,rfl,rfl,congrArg (AV.int .i64) (w64 (by omega) (by omega)),rfl,.of_eq (congrArg GByte.ows ?_),.refl _,trivial⟩
    dsimp only
    rw[e];simp
   ·rw[he,List.take_of_length_le (by omega)]
theorem impl_PutExpr (b:List UInt8) (a:GExpr) (fa:GExpr.fit a) (oa:GExpr.ok a) (hp:b.length+(putE a).length≤70368744100000):Con 47 [.ro 1 (GByte.ros b),.agg (GExpr.ro a)] (.ow 1 (GByte.ows (if okE a 1 false then b++putE a else b))) [none,none]:=by
 refine con Tryz.func47 ?_
 refine ⟨[.ro],.bool (okE a 1 false),[none],impl_ExprOk a fa oa,trivial,fun h=>?_,fun h=>?_⟩<;>simp only[Bool.not_eq_true',Bool.not_eq_false'] at h<;>rw[h]
 ·have h2:=impl_joined [b] (by simp) (by simp;omega)
  refine ⟨[.ro],.ow 1 (GByte.ows [b].flatten),[none],(by show Con _ [.ro 1 [[.ro 1 (toRoRows (GByte.ros b))]]] _ _;rw[GByte.ror];exact h2),⟨GByte.nro _,trivial⟩,.of_eq (congrArg (AV.ow 1) ?_),trivial⟩
  simp
 ·refine ⟨[.ro],.ow 1 (GByte.ows (putE a)),[none],impl_putExpr a fa oa (by omega),trivial,?_⟩
  have h2:=impl_joined [b,putE a] (by simp) (by simp;omega)
  refine ⟨[.ro],.ow 1 (GByte.ows [b,putE a].flatten),[none],(by show Con _ [.ro 1 [[.ro 1 (toRoRows (GByte.ros b))],[.ro 1 (toRoRows (GByte.ows (putE a)))]]] _ _;rw[GByte.ror,GByte.roo];exact h2),⟨GByte.nro _,trivial⟩,.of_eq (congrArg (AV.ow 1) ?_),trivial⟩
  simp
theorem spec_PutExpr (b:List UInt8) (a:GExpr) (fa:GExpr.fit a) (oa:GExpr.ok a) (hp:b.length+(putE a).length≤70368744100000):Con 112 [.ro 1 (GByte.ros b),.agg (GExpr.ro a)] (.ow 1 (GByte.ows (if okE a 1 false then b++putE a else b))) [none,none]:=by
 refine con Tryz.func112 ?_
 refine ⟨[.ro],.bool (okE a 1 false),[none],spec_ExprOk a fa oa,trivial,fun h=>?_,fun h=>?_⟩<;>simp only[Bool.not_eq_true',Bool.not_eq_false'] at h<;>rw[h]
 ·refine ⟨trivial,?_,byte_plain b,.refl _,trivial⟩
  show (0+(GByte.ros b).length)*1≤_
  rw[byte_len];omega
 ·exact ⟨[.ro,.ro],.ow 1 (GByte.ows (b++putE a)),[none,none],spec_l17Put a b fa oa hp,trivial,.refl _,trivial⟩
end Go.Proofs.VI
