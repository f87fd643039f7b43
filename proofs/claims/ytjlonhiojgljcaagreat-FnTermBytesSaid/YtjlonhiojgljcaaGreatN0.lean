/- Contracts of functions, and what they rest on: l15sorted. -/
import Derived.Test.YtjlonhiojgljcaaGreatX1
import Derived.Test.YtjlonhiojgljcaaGreatX2
import Derived.Test.YtjlonhiojgljcaaGreatF6
set_option linter.unusedVariables false
set_option linter.unusedSimpArgs false
set_option maxRecDepth 10000
set_option maxHeartbeats 4000000
namespace Go.Proofs.VI
open Go
theorem bytesLess_lt:∀ (x y:List UInt8),Op.bytesLess x y=decide (x < y)
 | [],[]=>by simp[Op.bytesLess]
 | _::_,[]=>by simp[Op.bytesLess]
 | [],_::_=>by simp[Op.bytesLess]
 | a::x,b::y=>by
  rw[Op.bytesLess,bytesLess_lt x y]
  simp only[List.cons_lt_cons_iff]
  by_cases h1:a < b<;>by_cases h2:a=b<;>by_cases h3:x < y<;>simp[h1,h2,h3]
theorem less_kS (a b:ByteArray):Op.bytesLess a.toList b.toList=decide (kS a < kS b):=by
 rw[bytesLess_lt,ByteArray.toList_eq,ByteArray.toList_eq];rfl
theorem gtr_kS (a b:ByteArray):(!(Op.bytesLess a.toList b.toList||decide (a=b)))=decide (kS b < kS a):=by
 rw[less_kS]
 rcases ltL_tri (kS a) (kS b) with h | h | h
 ·have h2:¬ kS b < kS a:=fun k=>ltL_irrefl _ (ltL_trans h k)
  simp[h,h2]
 ·have e:=kS_inj h
  subst e
  simp[ltL_irrefl]
 ·have h2:¬ kS a < kS b:=fun k=>ltL_irrefl _ (ltL_trans h k)
  have h3:¬ a=b:=fun e=>by subst e;exact ltL_irrefl _ h
  simp[h,h2,h3]
theorem insS_at {l:List ByteArray} {s:ByteArray} {k:Nat} (hn:(l.any fun x=>decide (x=s))=false) (h1:∀ y∈l.take k,kS y < kS s) (h2:∀ y∈l.drop k,kS s < kS y):insS l s=l.take k++s::l.drop k:=by
 rw[insS,if_neg (by rw[hn];decide)]
 have e:∀ p:ByteArray→Bool,l.filter p=(l.take k).filter p++(l.drop k).filter p:=fun p=>by rw[←List.filter_append,List.take_append_drop]
 rw[e,e]
 have a1:(l.take k).filter (fun x=>decide (kS x < kS s))=l.take k:=List.filter_eq_self.2 fun y hy=>decide_eq_true (h1 y hy)
 have a2:(l.drop k).filter (fun x=>decide (kS x < kS s))=[]:=List.filter_eq_nil_iff.2 fun y hy=>by
  simp only[decide_eq_true_eq]
  exact fun h=>ltL_irrefl _ (ltL_trans h (h2 y hy))
 have a3:(l.take k).filter (fun x=>decide (kS s < kS x))=[]:=List.filter_eq_nil_iff.2 fun y hy=>by
  simp only[decide_eq_true_eq]
  exact fun h=>ltL_irrefl _ (ltL_trans h (h1 y hy))
 have a4:(l.drop k).filter (fun x=>decide (kS s < kS x))=l.drop k:=List.filter_eq_self.2 fun y hy=>decide_eq_true (h2 y hy)
 rw[a1,a2,a3,a4,List.append_nil,List.nil_append]
theorem str_plain (a:List GString):plainRows (GString.ows a):=by
 induction a with
 | nil=>trivial
 | cons x a ih=>exact ⟨⟨trivial,trivial⟩,ih⟩
theorem insS_len (l:List ByteArray) (s:ByteArray):(insS l s).length≤l.length+1:=by
 unfold insS
 split
 ·omega
 ·have h1:=List.length_filter_le (fun x:ByteArray=>decide (kS x < kS s)) l
  have h3:∀ l:List ByteArray,(l.filter fun x=>decide (kS x < kS s)).length+(l.filter fun x=>decide (kS s < kS x)).length≤l.length:=fun l=>by
   induction l with
   | nil=>simp
   | cons y l ih=>
    simp only[List.filter_cons]
    by_cases a:kS y < kS s
    ·have b:¬ kS s < kS y:=fun k=>ltL_irrefl _ (ltL_trans a k)
     simp[a,b];omega
    ·by_cases b:kS s < kS y<;>simp[a,b]<;>omega
  have:=h3 l
  simp only[List.length_append,List.length_cons]
  omega
theorem spec_l15Sorted (l:List GString) (s:ByteArray) (hl:l.length≤1099511627776) (hs:SortedS l):Con 68 [.ro 1 (GString.ros l),.str s] (.ro 1 (GString.ros (insS l s))) [none,none]:=by
 have hlen:(GString.ros l).length=l.length:=by simp
 have cA:=spec_l9At l s hl
 have hany:=placeOf_any l s
 refine con Tryz.func68 ?_
 refine ⟨[.ro,.ro],.int .i64 (placeOf l s),[none,none],cA,trivial,fun h=>?_,fun h=>?_⟩
 ·have hm:(l.any fun x=>decide (x=s))=true:=by rw[←hany];simpa using h
  have e:insS l s=l:=by rw[insS,if_pos hm]
  rw[e]
  exact ⟨.refl _,trivial⟩
 have hm:(l.any fun x=>decide (x=s))=false:=by rw[←hany];simpa using h
 refine ⟨trivial,(by show (0+(GString.ros l).length)*16≤_;rw[hlen];omega),str_plain l,trivial,(by show (([]++GString.ros l).length+1)*16≤_;simp;omega),⟨⟨trivial,trivial⟩,trivial⟩,?_⟩
 have e0:IntKind.wrap .i64 ((([]++GString.ros l++[[AV.str s]]).length:Int) - 1)=((l.length:Nat):Int):=by
  have eL:([]++GString.ros l++[[AV.str s]]).length=l.length+1:=by simp
  rw[eL,w64 (by omega) (by omega)];omega
 refine ⟨{p:Nat×ByteArray // p.1≤l.length∧∀ y∈l.drop p.1,kS s < kS y},fun p=>⟨[(1,.str s),(5,.own 0),(6,.int .i64 p.1.1)],[(0,.rows 1 (GString.ows (l.take p.1.1++p.1.2::l.drop p.1.1)) [])]⟩,fun p=>p.1.1,⟨(l.length,s),Nat.le_refl _,fun y hy=>by simp at hy⟩,?_,?_⟩
 ·refine ⟨rfl,congrArg (AV.int .i64) e0,rfl,SimRows.of_eq ?_,trivial⟩
  show []++GString.ros l++[[AV.str s]]=GString.ows (l.take l.length++s::l.drop l.length)
  simp[GString.ro]
 ·rintro ⟨⟨k,x⟩,hk,hd⟩
  dsimp only at hk hd⊢
  have hL:((GString.ows (l.take k++x::l.drop k)).length:Int)=l.length+1:=by simp;omega
  have fin:(∀ y∈l.take k,kS y < kS s)→(GString.ows (l.take k++x::l.drop k)).set k [AV.str s]=GString.ows (insS l s):=fun h1=>by
   rw[insS_at hm h1 hd]
   have ht:(l.take k).length=k:=by simp;omega
   show ((l.take k++x::l.drop k).map GString.ro).set k (GString.ro s)=_
   rw[←List.map_set,List.set_append_right _ _ (by omega),ht,Nat.sub_self];rfl
  have hrowk:(GString.ows (l.take k++x::l.drop k))[((k:Nat):Int).toNat]?=some [AV.str x]:=by
   have ht:(l.take k).length=k:=by simp;omega
   rw[Int.toNat_natCast]
   show ((l.take k++x::l.drop k).map GString.ro)[k]?=_
   rw[List.getElem?_map,List.getElem?_append_right (by omega),ht,Nat.sub_self];rfl
  refine ⟨fun h=>?_,fun h=>?_⟩<;>simp only[decide_eq_true_eq,decide_eq_false_iff_not] at h
  ·obtain ⟨q,rfl⟩:∃ q,k=q+1:=⟨k - 1,by omega⟩
   have e1:IntKind.wrap .i64 (((q+1:Nat):Int) - 1)=((q:Nat):Int):=by rw[w64 (by omega) (by omega)];omega
   have hq:q < l.length:=by omega
   have hrowq:(GString.ows (l.take (q+1)++x::l.drop (q+1)))[(IntKind.wrap .i64 (((q+1:Nat):Int) - 1)).toNat]?=some [AV.str l[q]]:=by
    rw[e1,Int.toNat_natCast]
    show ((l.take (q+1)++x::l.drop (q+1)).map GString.ro)[q]?=_
    rw[List.getElem?_map,List.getElem?_append_left (by simp;omega),List.getElem?_take,if_pos (by omega),List.getElem?_eq_getElem hq];rfl
   refine ⟨by rw[e1];omega,by rw[e1,hL];omega,_,hrowq,fun h2=>?_,fun h2=>?_⟩<;>rw[gtr_kS] at h2<;>simp only[decide_eq_true_eq,decide_eq_false_iff_not] at h2
   ·refine ⟨by rw[e1];omega,by rw[e1,hL];omega,_,hrowq,by omega,by rw[hL];omega,_,hrowk,?_⟩
    refine ⟨⟨(q,l[q]),by dsimp only;omega,fun y hy=>?_⟩,Nat.lt_succ_self _,rfl,congrArg (AV.int .i64) e1,rfl,SimRows.of_eq ?_,trivial⟩
    ·dsimp only at hy
     rw[List.drop_eq_getElem_cons hq] at hy
     rcases List.mem_cons.1 hy with e | hy
     ·rw[e];exact h2
     ·exact hd y hy
    ·show ((l.take (q+1)++x::l.drop (q+1)).map GString.ro).set ((q+1:Nat):Int).toNat (GString.ro l[q])=GString.ows (l.take q++l[q]::l.drop q)
     have ht:(l.take (q+1)).length=q+1:=by simp;omega
     rw[Int.toNat_natCast,←List.map_set,List.set_append_right _ _ (by omega),ht,Nat.sub_self,List.set_cons_zero,List.take_add_one,List.getElem?_eq_getElem hq]
     conv=>rhs;rw[List.drop_eq_getElem_cons hq]
     rw[List.append_assoc];rfl
   ·refine ⟨by omega,by rw[hL];omega,_,hrowk,?_⟩
    have hne:l[q]≠s:=fun e=>by
     rw[List.any_eq_false] at hm
     exact absurd (decide_eq_true e) (by simpa using hm l[q] (List.getElem_mem hq))
    have hlt:kS l[q] < kS s:=by
     rcases ltL_tri (kS l[q]) (kS s) with a | a | a
     ·exact a
     ·exact absurd (kS_inj a) hne
     ·exact absurd a h2
    have e9:=fin fun y hy=>by
     obtain ⟨j,hj,rfl⟩:=List.mem_iff_getElem.1 hy
     rw[List.length_take] at hj
     rw[List.getElem_take]
     by_cases ej:j=q
     ·subst ej;exact hlt
     ·exact ltL_trans (List.pairwise_iff_getElem.1 hs j q (by omega) hq (by omega)) hlt
    exact ⟨.trans (.frz _) (.of_eq (by show AV.ro 1 (toRoRows _)=_;rw[Int.toNat_natCast,e9,GString.roo])),trivial⟩
  ·have k0:k=0:=by omega
   subst k0
   refine ⟨by omega,by rw[hL];omega,_,hrowk,?_⟩
   have e9:=fin fun y hy=>by simp at hy
   exact ⟨.trans (.frz _) (.of_eq (by show AV.ro 1 (toRoRows _)=_;rw[Int.toNat_natCast,e9,GString.roo])),trivial⟩
end Go.Proofs.VI
