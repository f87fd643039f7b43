/- Contracts of functions, and what they rest on: l10same. -/
import Derived.Test.YtjlonhiojgljcaaGreatD2
set_option linter.unusedVariables false
set_option linter.unusedSimpArgs false
set_option maxRecDepth 10000
set_option maxHeartbeats 4000000
namespace Go.Proofs.VI
open Go
def all2 {α β:Type} (p:α→β→Bool):List α→List β→Bool
 | [],_=>true
 | _::_,[]=>false
 | x::l,y::m=>p x y&&all2 p l m
theorem all2_true {α β:Type} (p:α→β→Bool):∀ (l:List α) (m:List β),l.length=m.length→(∀ j (h:j < l.length) (h':j < m.length),p l[j] m[j]=true)→all2 p l m=true
 | [],_,_,_=>rfl
 | x::l,[],h,_=>by simp at h
 | x::l,y::m,h,hj=>by
  rw[all2,all2_true p l m (by simpa using h) fun j h1 h2=>hj (j+1) (by simpa using h1) (by simpa using h2)]
  have:=hj 0 (by simp) (by simp)
  simpa using this
theorem all2_false {α β:Type} (p:α→β→Bool):∀ (l:List α) (m:List β) (j:Nat) (h:j < l.length) (h':j < m.length),p l[j] m[j]=false→all2 p l m=false
 | [],_,_,h,_,_=>by simp at h
 | x::l,[],_,_,h',_=>by simp at h'
 | x::l,y::m,0,_,_,hj=>by
  rw[all2,show p x y=false from hj];rfl
 | x::l,y::m,j+1,h,h',hj=>by
  rw[all2,all2_false p l m j (by simpa using h) (by simpa using h') hj];simp
mutual
def sameE:GExpr→GExpr→Bool
 | .mk k n s l,b=>decide (k=b.k)&&decide (n=b.n)&&decide (s=b.s)&&decide (l.length=b.l.length)&&sameL l b.l
def sameL:List GExpr→List GExpr→Bool
 | [],_=>true
 | _::_,[]=>false
 | x::l,y::m=>sameE x y&&sameL l m
end
theorem sameL_all2:∀ (l m:List GExpr),sameL l m=all2 sameE l m
 | [],_=>by rw[sameL,all2]
 | _::_,[]=>by rw[sameL,all2]
 | x::l,y::m=>by rw[sameL,all2,sameL_all2 l m]
theorem sameE_un (a b:GExpr):sameE a b=(decide (a.k=b.k)&&decide (a.n=b.n)&&decide (a.s=b.s)&&decide (a.l.length=b.l.length)&&all2 sameE a.l b.l):=by
 cases a;rw[sameE,sameL_all2];rfl
theorem ros_get (l:List GExpr) (i:Nat) (h:i < l.length):(GExpr.ros l)[i]?=some (GExpr.ro l[i]):=by rw[GExpr.ros_eq,map_get _ _ h]
theorem ros_len (l:List GExpr):(GExpr.ros l).length=l.length:=by rw[GExpr.ros_eq,List.length_map]
theorem k_mk (k n:Int) (s:ByteArray) (l:List GExpr):(GExpr.mk k n s l).k=k:=rfl
theorem l_mk (k n:Int) (s:ByteArray) (l:List GExpr):(GExpr.mk k n s l).l=l:=rfl
theorem ows_snoc (l:List GExpr) (x:GExpr):GExpr.ows (l++[x])=GExpr.ows l++[GExpr.ow x]:=by simp[GExpr.ows_eq]
theorem ows_len (l:List GExpr):(GExpr.ows l).length=l.length:=by rw[GExpr.ows_eq,List.length_map]
theorem snoc_row (l:List GExpr) (x:GExpr):(GExpr.ows l++[[AV.int .i64 x.k,.int .i64 x.n,.str x.s,.nilp]]).modify ((GExpr.ows l).length+0) (fun row=>row.set 3 (.ow 4 (GExpr.ows x.l)))=GExpr.ows (l++[x]):=by
 rw[modify_end,ows_snoc];rfl
theorem GExpr.ok_mk {k n:Int} {s:ByteArray} {l:List GExpr} (hk: -9223372036854775808≤k∧k≤9223372036854775807) (hn: -9223372036854775808≤n∧n≤9223372036854775807) (hs:s.size≤9223372036854775807) (hl:l.length≤9223372036854775807) (h:∀ x∈l,GExpr.ok x):GExpr.ok (.mk k n s l):=by
 rw[GExpr.ok,GExpr.okL_iff];exact ⟨hk,hn,hs,hl,h⟩
theorem spec_SameExpr:∀ (a b:GExpr) (fa:GExpr.fit a) (fb:GExpr.fit b),Con 121 [.agg (GExpr.ro a),.agg (GExpr.ro b)] (.bool (sameE a b)) [none,none]:=by
 refine GExpr.ind fun a ih b fa fb=>?_
 have ua:=GExpr.fit_un fa
 have ub:=GExpr.fit_un fb
 refine con Tryz.func121 ?_
 have la:=ros_len a.l
 have lb:=ros_len b.l
 refine ⟨fun h1=>?_,fun h1=>⟨.of_eq (congrArg AV.bool ?_),trivial⟩⟩<;>simp only[decide_eq_true_eq,decide_eq_false_iff_not] at h1
 rotate_left
 ·rw[sameE_un];simp[h1]
 refine ⟨fun h2=>?_,fun h2=>⟨.of_eq (congrArg AV.bool ?_),trivial⟩⟩<;>simp only[decide_eq_true_eq,decide_eq_false_iff_not] at h2
 rotate_left
 ·rw[sameE_un];simp[h2]
 refine ⟨fun h3=>?_,fun h3=>⟨.of_eq (congrArg AV.bool ?_),trivial⟩⟩<;>simp only[decide_eq_true_eq,decide_eq_false_iff_not] at h3
 rotate_left
 ·rw[sameE_un];simp[h3]
 refine ⟨fun h4=>⟨.of_eq (congrArg AV.bool ?_),trivial⟩,fun h4=>?_⟩<;>simp only[la,lb,decide_eq_true_eq,decide_eq_false_iff_not] at h4
 ·have:¬ a.l.length=b.l.length:=by omega
  rw[sameE_un];simp[this]
 have h4:a.l.length=b.l.length:=by omega
 simp only[Decidable.not_not] at h1 h2 h3
 have hO:sameE a b=all2 sameE a.l b.l:=by rw[sameE_un];simp[h1,h2,h3,h4]
 refine ⟨{i:Nat // i≤a.l.length∧∀ j (h:j < i) (h1:j < a.l.length) (h2:j < b.l.length),sameE a.l[j] b.l[j]=true},fun i=>⟨[(2,.ptr 0 0 0),(3,.ptr 1 0 0),(5,.int .i64 i.1)],[(0,.box (GExpr.ro a) []),(1,.box (GExpr.ro b) [])]⟩,fun i=>a.l.length - i.1,⟨0,by omega,fun j h=>by omega⟩,?_,?_⟩
 ·exact ⟨rfl,rfl,rfl,rfl,rfl,.refl _,.refl _,trivial⟩
 ·rintro ⟨i,hi,ha⟩
  dsimp only
  refine ⟨fun h=>?_,fun h=>⟨.of_eq (congrArg AV.bool ?_),trivial⟩⟩<;>simp only[la,decide_eq_true_eq,decide_eq_false_iff_not] at h
  ·have hi:i < a.l.length:=by omega
   have hi2:i < b.l.length:=by omega
   refine ⟨Int.natCast_nonneg _,_,ros_get _ _ hi,Int.natCast_nonneg _,_,ros_get _ _ hi2,?_⟩
   refine ⟨[.ro,.ro],.bool (sameE a.l[i] b.l[i]),[none,none],ih _ (List.getElem_mem _) _ (ua.2 _ (List.getElem_mem _)) (ub.2 _ (List.getElem_mem _)),trivial,?_⟩
   refine ⟨rfl,fun h=>⟨.of_eq (congrArg AV.bool ?_),trivial⟩,fun h=>?_⟩<;>simp only[Bool.not_eq_true',Bool.not_eq_false'] at h
   ·exact (hO.trans (all2_false sameE a.l b.l i hi hi2 h)).symm
   ·refine ⟨⟨i+1,by omega,fun j hj h1 h2=>?_⟩,by dsimp only;omega,rfl,rfl,rfl,rfl,congrArg (AV.int .i64) (w64 (by omega) (by omega)),.refl _,.refl _,trivial⟩
    rcases Nat.lt_succ_iff_lt_or_eq.1 hj with h3 | h3
    ·exact ha j h3 h1 h2
    ·subst h3;exact h
  ·exact (hO.trans (all2_true sameE a.l b.l h4 fun j h1 h2=>ha j (by omega) h1 h2)).symm
theorem impl_SameExpr:∀ (a b:GExpr) (fa:GExpr.fit a) (fb:GExpr.fit b),Con 54 [.agg (GExpr.ro a),.agg (GExpr.ro b)] (.bool (sameE a b)) [none,none]:=by
 refine GExpr.ind fun a ih b fa fb=>?_
 have ua:=GExpr.fit_un fa
 have ub:=GExpr.fit_un fb
 refine con Tryz.func54 ?_
 have la:=ros_len a.l
 have lb:=ros_len b.l
 refine ⟨fun h1=>?_,fun h1=>⟨.of_eq (congrArg AV.bool ?_),trivial⟩⟩<;>simp only[decide_eq_true_eq,decide_eq_false_iff_not] at h1
 rotate_left
 ·rw[sameE_un];simp[h1]
 refine ⟨fun h2=>?_,fun h2=>⟨.of_eq (congrArg AV.bool ?_),trivial⟩⟩<;>simp only[decide_eq_true_eq,decide_eq_false_iff_not] at h2
 rotate_left
 ·rw[sameE_un];simp[h2]
 refine ⟨fun h3=>?_,fun h3=>⟨.of_eq (congrArg AV.bool ?_),trivial⟩⟩<;>simp only[decide_eq_true_eq,decide_eq_false_iff_not] at h3
 rotate_left
 ·rw[sameE_un];simp[h3]
 refine ⟨fun h4=>⟨.of_eq (congrArg AV.bool ?_),trivial⟩,fun h4=>?_⟩<;>simp only[la,lb,decide_eq_true_eq,decide_eq_false_iff_not] at h4
 ·have:¬ a.l.length=b.l.length:=by omega
  rw[sameE_un];simp[this]
 have h4:a.l.length=b.l.length:=by omega
 simp only[Decidable.not_not] at h1 h2 h3
 have hO:sameE a b=all2 sameE a.l b.l:=by rw[sameE_un];simp[h1,h2,h3,h4]
 refine ⟨{i:Nat // i≤a.l.length∧∀ j (h:j < i) (h1:j < a.l.length) (h2:j < b.l.length),sameE a.l[j] b.l[j]=true},fun i=>⟨[(3,.ptr 0 0 0),(36,.ro 4 (GExpr.ros a.l)),(37,.int .i64 a.l.length),(38,.int .i64 i.1)],[(0,.box (GExpr.ro b) [])]⟩,fun i=>a.l.length - i.1,⟨0,by omega,fun j h=>by omega⟩,?_,?_⟩
 ·exact ⟨rfl,rfl,rfl,congrArg (AV.int .i64) (by rw[la,h4]),rfl,.refl _,trivial⟩
 ·rintro ⟨i,hi,ha⟩
  dsimp only
  refine ⟨fun h=>?_,fun h=>⟨.of_eq (congrArg AV.bool ?_),trivial⟩⟩<;>simp only[la,decide_eq_true_eq,decide_eq_false_iff_not] at h
  ·have hi:i < a.l.length:=by omega
   have hi2:i < b.l.length:=by omega
   refine ⟨Int.natCast_nonneg _,_,ros_get _ _ hi,Int.natCast_nonneg _,_,ros_get _ _ hi2,?_⟩
   refine ⟨[.ro,.ro],.bool (sameE a.l[i] b.l[i]),[none,none],ih _ (List.getElem_mem _) _ (ua.2 _ (List.getElem_mem _)) (ub.2 _ (List.getElem_mem _)),trivial,?_⟩
   refine ⟨rfl,fun h=>⟨.of_eq (congrArg AV.bool ?_),trivial⟩,fun h=>?_⟩<;>simp only[Bool.not_eq_true',Bool.not_eq_false'] at h
   ·exact (hO.trans (all2_false sameE a.l b.l i hi hi2 h)).symm
   ·refine ⟨⟨i+1,by omega,fun j hj h1 h2=>?_⟩,by dsimp only;omega,rfl,rfl,rfl,rfl,congrArg (AV.int .i64) (w64 (by omega) (by omega)),.refl _,trivial⟩
    rcases Nat.lt_succ_iff_lt_or_eq.1 hj with h3 | h3
    ·exact ha j h3 h1 h2
    ·subst h3;exact h
  ·exact (hO.trans (all2_true sameE a.l b.l h4 fun j h1 h2=>ha j (by omega) h1 h2)).symm
def sameSect (x y:GSect):Bool:=decide (x.name=y.name)&&(x.over == y.over)&&decide (x.words.length=y.words.length)&&all2 sameE x.words y.words
def sameGlob (x y:GGlob):Bool:=decide (x.name=y.name)&&sameE x.e y.e
def sameObj (a b:GObj):Bool:=decide (a.sects.length=b.sects.length)&&decide (a.globs.length=b.globs.length)&&all2 sameSect a.sects b.sects&&all2 sameGlob a.globs b.globs
theorem sameObj_sects {a b:GObj} (i:Nat) (h:i < a.sects.length) (h':i < b.sects.length) (hs:sameSect a.sects[i] b.sects[i]=false):sameObj a b=false:=by
 rw[sameObj,all2_false sameSect _ _ i h h' hs];simp
theorem sameObj_globs {a b:GObj} (i:Nat) (h:i < a.globs.length) (h':i < b.globs.length) (hs:sameGlob a.globs[i] b.globs[i]=false):sameObj a b=false:=by
 rw[sameObj,all2_false sameGlob _ _ i h h' hs];simp
theorem spec_SameObj (a b:GObj) (fa:GObj.fit a) (fb:GObj.fit b):Con 56 [.agg (GObj.ro a),.agg (GObj.ro b)] (.bool (sameObj a b)) [none,none]:=by
 obtain ⟨fa0,fa1⟩:=GObj.fit_un fa
 obtain ⟨fb0,fb1⟩:=GObj.fit_un fb
 refine con Tryz.func56 ?_
 have la:(GSect.ros a.sects).length=a.sects.length:=by simp
 have lb:(GSect.ros b.sects).length=b.sects.length:=by simp
 have ka:(GGlob.ros a.globs).length=a.globs.length:=by simp
 have kb:(GGlob.ros b.globs).length=b.globs.length:=by simp
 refine ⟨fun h1=>?_,fun h1=>⟨.of_eq (congrArg AV.bool ?_),trivial⟩⟩<;>simp only[la,lb,decide_eq_true_eq,decide_eq_false_iff_not] at h1
 rotate_left
 ·have:¬ a.sects.length=b.sects.length:=by omega
  simp[sameObj,this]
 refine ⟨fun h2=>⟨.of_eq (congrArg AV.bool ?_),trivial⟩,fun h2=>?_⟩<;>simp only[ka,kb,decide_eq_true_eq,decide_eq_false_iff_not] at h2
 ·have:¬ a.globs.length=b.globs.length:=by omega
  simp[sameObj,this]
 have h1:a.sects.length=b.sects.length:=by omega
 have h2:a.globs.length=b.globs.length:=by omega
 refine ⟨{i:Nat // i≤a.sects.length∧∀ j (h:j < i) (h1:j < a.sects.length) (h2:j < b.sects.length),sameSect a.sects[j] b.sects[j]=true},fun i=>⟨[(2,.ptr 0 0 0),(3,.ptr 1 0 0),(5,.int .i64 i.1)],[(0,.box (GObj.ro a) []),(1,.box (GObj.ro b) [])]⟩,fun i=>a.sects.length - i.1,⟨0,by omega,fun j h=>by omega⟩,?_,?_⟩
 ·exact ⟨rfl,rfl,rfl,rfl,rfl,.refl _,.refl _,trivial⟩
 ·rintro ⟨i,hi,ha⟩
  dsimp only
  refine ⟨fun h=>?_,fun h=>?_⟩<;>simp only[la,decide_eq_true_eq,decide_eq_false_iff_not] at h
  ·have hi:i < a.sects.length:=by omega
   have hi2:i < b.sects.length:=by omega
   have e4:IntKind.wrap .i64 ((i:Int)+1)=((i+1:Nat):Int):=w64 (by omega) (by omega)
   have hS:=sameObj_sects i hi hi2
   have gx:=GSect.fit_un (fa0.2 _ (List.getElem_mem hi))
   have gy:=GSect.fit_un (fb0.2 _ (List.getElem_mem hi2))
   have wx:=ros_len a.sects[i].words
   have wy:=ros_len b.sects[i].words
   refine ⟨Int.natCast_nonneg _,_,map_get (f:=GSect.ro) _ _ hi,Int.natCast_nonneg _,_,map_get (f:=GSect.ro) _ _ hi2,?_⟩
   refine ⟨fun g1=>?_,fun g1=>⟨.of_eq (congrArg AV.bool ?_),trivial⟩⟩<;>simp only[decide_eq_true_eq,decide_eq_false_iff_not] at g1
   rotate_left
   ·exact (hS (by simp[sameSect,g1])).symm
   refine ⟨fun g2=>?_,fun g2=>⟨.of_eq (congrArg AV.bool ?_),trivial⟩⟩<;>simp only[bne_iff_ne,bne_eq_false_iff_eq] at g2
   rotate_left
   ·exact (hS (by simp[sameSect,g2])).symm
   refine ⟨fun g3=>⟨.of_eq (congrArg AV.bool ?_),trivial⟩,fun g3=>?_⟩<;>simp only[wx,wy,decide_eq_true_eq,decide_eq_false_iff_not] at g3
   ·have:¬ a.sects[i].words.length=b.sects[i].words.length:=by omega
    exact (hS (by simp[sameSect,this])).symm
   have g3:a.sects[i].words.length=b.sects[i].words.length:=by omega
   simp only[Decidable.not_not] at g1
   have hW:sameSect a.sects[i] b.sects[i]=all2 sameE a.sects[i].words b.sects[i].words:=by simp[sameSect,g1,g2,g3]
   refine ⟨{k:Nat // k≤a.sects[i].words.length∧∀ j (h:j < k) (h1:j < a.sects[i].words.length) (h2:j < b.sects[i].words.length),sameE a.sects[i].words[j] b.sects[i].words[j]=true},
    fun k=>⟨[(2,.ptr 0 0 0),(3,.ptr 1 0 0),(5,.int .i64 i),(6,.ptr 2 0 0),(7,.ptr 3 0 0),(8,.int .i64 k.1)],[(0,.box (GObj.ro a) []),(1,.box (GObj.ro b) []),(2,.box (GSect.ro a.sects[i]) []),(3,.box (GSect.ro b.sects[i]) [])]⟩,fun k=>a.sects[i].words.length - k.1,⟨0,by omega,fun j h=>by omega⟩,?_,?_⟩
   ·exact ⟨rfl,rfl,rfl,rfl,rfl,rfl,rfl,rfl,rfl,rfl,.refl _,.refl _,.refl _,.refl _,trivial⟩
   ·rintro ⟨k,hk,hka⟩
    dsimp only
    refine ⟨fun h=>?_,fun h=>?_⟩<;>simp only[wx,decide_eq_true_eq,decide_eq_false_iff_not] at h
    ·have hk:k < a.sects[i].words.length:=by omega
     have hk2:k < b.sects[i].words.length:=by omega
     refine ⟨Int.natCast_nonneg _,_,ros_get _ _ hk,Int.natCast_nonneg _,_,ros_get _ _ hk2,?_⟩
     refine ⟨[.ro,.ro],.bool (sameE a.sects[i].words[k] b.sects[i].words[k]),[none,none],spec_SameExpr _ _ (gx.2 _ (List.getElem_mem _)) (gy.2 _ (List.getElem_mem _)),trivial,?_⟩
     refine ⟨rfl,fun h=>⟨.of_eq (congrArg AV.bool ?_),trivial⟩,fun h=>?_⟩<;>simp only[Bool.not_eq_true',Bool.not_eq_false'] at h
     ·exact (hS (hW.trans (all2_false sameE _ _ k hk hk2 h))).symm
     ·refine ⟨⟨k+1,by omega,fun j hj h1 h2=>?_⟩,by dsimp only;omega,rfl,rfl,rfl,rfl,rfl,rfl,rfl,rfl,rfl,congrArg (AV.int .i64) (w64 (by omega) (by omega)),.refl _,.refl _,.refl _,.refl _,trivial⟩
      rcases Nat.lt_succ_iff_lt_or_eq.1 hj with h3 | h3
      ·exact hka j h3 h1 h2
      ·subst h3;exact h
    ·refine ⟨⟨i+1,by omega,fun j hj h1 h2=>?_⟩,by dsimp only;omega,rfl,rfl,rfl,rfl,congrArg (AV.int .i64) e4,.refl _,.refl _,trivial⟩
     rcases Nat.lt_succ_iff_lt_or_eq.1 hj with h3 | h3
     ·exact ha j h3 h1 h2
     ·subst h3
      exact hW.trans (all2_true sameE _ _ g3 fun j h1 h2=>hka j (by omega) h1 h2)
  ·have hA:=all2_true sameSect a.sects b.sects h1 fun j h1 h2=>ha j (by omega) h1 h2
   have hO:sameObj a b=all2 sameGlob a.globs b.globs:=by simp[sameObj,h1,h2,hA]
   refine ⟨{i:Nat // i≤a.globs.length∧∀ j (h:j < i) (h1:j < a.globs.length) (h2:j < b.globs.length),sameGlob a.globs[j] b.globs[j]=true},fun i=>⟨[(2,.ptr 0 0 0),(3,.ptr 1 0 0),(9,.int .i64 i.1)],[(0,.box (GObj.ro a) []),(1,.box (GObj.ro b) [])]⟩,fun i=>a.globs.length - i.1,⟨0,by omega,fun j h=>by omega⟩,?_,?_⟩
   ·exact ⟨rfl,rfl,rfl,rfl,rfl,.refl _,.refl _,trivial⟩
   ·rintro ⟨i,hi,ha⟩
    dsimp only
    refine ⟨fun h=>?_,fun h=>⟨.of_eq (congrArg AV.bool ?_),trivial⟩⟩<;>simp only[ka,decide_eq_true_eq,decide_eq_false_iff_not] at h
    ·have hi:i < a.globs.length:=by omega
     have hi2:i < b.globs.length:=by omega
     have hS:=sameObj_globs i hi hi2
     refine ⟨Int.natCast_nonneg _,_,map_get (f:=GGlob.ro) _ _ hi,Int.natCast_nonneg _,_,map_get (f:=GGlob.ro) _ _ hi2,?_⟩
     refine ⟨fun g1=>⟨Int.natCast_nonneg _,_,map_get (f:=GGlob.ro) _ _ hi,Int.natCast_nonneg _,_,map_get (f:=GGlob.ro) _ _ hi2,?_⟩,fun g1=>⟨rfl,.of_eq (congrArg AV.bool ?_),trivial⟩⟩<;>simp only[decide_eq_true_eq,decide_eq_false_iff_not] at g1
     ·simp only[Decidable.not_not] at g1
      refine ⟨[.ro,.ro],.bool (sameE a.globs[i].e b.globs[i].e),[none,none],spec_SameExpr _ _ (fa1.2 _ (List.getElem_mem _)) (fb1.2 _ (List.getElem_mem _)),trivial,?_⟩
      refine ⟨rfl,fun h=>⟨.of_eq (congrArg AV.bool ?_),trivial⟩,fun h=>?_⟩<;>simp only[Bool.not_eq_true',Bool.not_eq_false'] at h
      ·exact (hS (by simp[sameGlob,h])).symm
      ·refine ⟨⟨i+1,by omega,fun j hj h1 h2=>?_⟩,by dsimp only;omega,rfl,rfl,rfl,rfl,congrArg (AV.int .i64) (w64 (by omega) (by omega)),.refl _,.refl _,trivial⟩
       rcases Nat.lt_succ_iff_lt_or_eq.1 hj with h3 | h3
       ·exact ha j h3 h1 h2
       ·subst h3
        simp[sameGlob,g1,h]
     ·exact (hS (by simp[sameGlob,g1])).symm
    ·rw[hO]
     exact (all2_true sameGlob _ _ h2 fun j h1 h2=>ha j (by omega) h1 h2).symm
theorem impl_SameObj (a b:GObj) (fa:GObj.fit a) (fb:GObj.fit b):Con 55 [.agg (GObj.ro a),.agg (GObj.ro b)] (.bool (sameObj a b)) [none,none]:=by
 obtain ⟨fa0,fa1⟩:=GObj.fit_un fa
 obtain ⟨fb0,fb1⟩:=GObj.fit_un fb
 refine con Tryz.func55 ?_
 have la:(GSect.ros a.sects).length=a.sects.length:=by simp
 have lb:(GSect.ros b.sects).length=b.sects.length:=by simp
 have ka:(GGlob.ros a.globs).length=a.globs.length:=by simp
 have kb:(GGlob.ros b.globs).length=b.globs.length:=by simp
 refine ⟨fun h1=>?_,fun h1=>⟨.of_eq (congrArg AV.bool ?_),trivial⟩⟩<;>simp only[la,lb,decide_eq_true_eq,decide_eq_false_iff_not] at h1
 rotate_left
 ·have:¬ a.sects.length=b.sects.length:=by omega
  simp[sameObj,this]
 refine ⟨fun h2=>⟨.of_eq (congrArg AV.bool ?_),trivial⟩,fun h2=>?_⟩<;>simp only[ka,kb,decide_eq_true_eq,decide_eq_false_iff_not] at h2
 ·have:¬ a.globs.length=b.globs.length:=by omega
  simp[sameObj,this]
 have h1:a.sects.length=b.sects.length:=by omega
 have h2:a.globs.length=b.globs.length:=by omega
 refine ⟨{i:Nat // i≤a.sects.length∧∀ j (h:j < i) (h1:j < a.sects.length) (h2:j < b.sects.length),sameSect a.sects[j] b.sects[j]=true},fun i=>⟨[(2,.ptr 0 0 0),(3,.ptr 1 0 0),(29,.ro 3 (GSect.ros a.sects)),(30,.int .i64 a.sects.length),(31,.int .i64 i.1)],[(0,.box (GObj.ro a) []),(1,.box (GObj.ro b) [])]⟩,fun i=>a.sects.length - i.1,⟨0,by omega,fun j h=>by omega⟩,?_,?_⟩
 ·exact ⟨rfl,rfl,rfl,rfl,rfl,congrArg (AV.int .i64) (by rw[la]),rfl,.refl _,.refl _,trivial⟩
 ·rintro ⟨i,hi,ha⟩
  dsimp only
  refine ⟨fun h=>?_,fun h=>?_⟩<;>simp only[la,decide_eq_true_eq,decide_eq_false_iff_not] at h
  ·have hi:i < a.sects.length:=by omega
   have hi2:i < b.sects.length:=by omega
   have e4:IntKind.wrap .i64 ((i:Int)+1)=((i+1:Nat):Int):=w64 (by omega) (by omega)
   have hS:=sameObj_sects i hi hi2
   have gx:=GSect.fit_un (fa0.2 _ (List.getElem_mem hi))
   have gy:=GSect.fit_un (fb0.2 _ (List.getElem_mem hi2))
   have wx:=ros_len a.sects[i].words
   have wy:=ros_len b.sects[i].words
   refine ⟨Int.natCast_nonneg _,_,map_get (f:=GSect.ro) _ _ hi,Int.natCast_nonneg _,_,map_get (f:=GSect.ro) _ _ hi2,?_⟩
   refine ⟨fun g1=>?_,fun g1=>⟨.of_eq (congrArg AV.bool ?_),trivial⟩⟩<;>simp only[decide_eq_true_eq,decide_eq_false_iff_not] at g1
   rotate_left
   ·exact (hS (by simp[sameSect,g1])).symm
   refine ⟨fun g2=>?_,fun g2=>⟨.of_eq (congrArg AV.bool ?_),trivial⟩⟩<;>simp only[bne_iff_ne,bne_eq_false_iff_eq] at g2
   rotate_left
   ·exact (hS (by simp[sameSect,g2])).symm
   refine ⟨fun g3=>⟨.of_eq (congrArg AV.bool ?_),trivial⟩,fun g3=>?_⟩<;>simp only[wx,wy,decide_eq_true_eq,decide_eq_false_iff_not] at g3
   ·have:¬ a.sects[i].words.length=b.sects[i].words.length:=by omega
    exact (hS (by simp[sameSect,this])).symm
   have g3:a.sects[i].words.length=b.sects[i].words.length:=by omega
   simp only[Decidable.not_not] at g1
   have hW:sameSect a.sects[i] b.sects[i]=all2 sameE a.sects[i].words b.sects[i].words:=by simp[sameSect,g1,g2,g3]
   refine ⟨{k:Nat // k≤a.sects[i].words.length∧∀ j (h:j < k) (h1:j < a.sects[i].words.length) (h2:j < b.sects[i].words.length),sameE a.sects[i].words[j] b.sects[i].words[j]=true},
    fun k=>⟨[(2,.ptr 0 0 0),(3,.ptr 1 0 0),(7,.ptr 2 0 0),(29,.ro 3 (GSect.ros a.sects)),(30,.int .i64 a.sects.length),(31,.int .i64 i),(63,.ro 4 (GExpr.ros a.sects[i].words)),(64,.int .i64 a.sects[i].words.length),(65,.int .i64 k.1)],[(0,.box (GObj.ro a) []),(1,.box (GObj.ro b) []),(2,.box (GSect.ro b.sects[i]) [])]⟩,fun k=>a.sects[i].words.length - k.1,⟨0,by omega,fun j h=>by omega⟩,?_,?_⟩
   ·exact ⟨rfl,rfl,rfl,rfl,rfl,rfl,rfl,rfl,rfl,rfl,congrArg (AV.int .i64) (by rw[wx]),rfl,.refl _,.refl _,.refl _,trivial⟩
   ·rintro ⟨k,hk,hka⟩
    dsimp only
    refine ⟨fun h=>?_,fun h=>?_⟩<;>simp only[wx,decide_eq_true_eq,decide_eq_false_iff_not] at h
    ·have hk:k < a.sects[i].words.length:=by omega
     have hk2:k < b.sects[i].words.length:=by omega
     refine ⟨Int.natCast_nonneg _,_,ros_get _ _ hk,Int.natCast_nonneg _,_,ros_get _ _ hk2,?_⟩
     refine ⟨[.ro,.ro],.bool (sameE a.sects[i].words[k] b.sects[i].words[k]),[none,none],impl_SameExpr _ _ (gx.2 _ (List.getElem_mem _)) (gy.2 _ (List.getElem_mem _)),trivial,?_⟩
     refine ⟨rfl,fun h=>⟨.of_eq (congrArg AV.bool ?_),trivial⟩,fun h=>?_⟩<;>simp only[Bool.not_eq_true',Bool.not_eq_false'] at h
     ·exact (hS (hW.trans (all2_false sameE _ _ k hk hk2 h))).symm
     ·refine ⟨⟨k+1,by omega,fun j hj h1 h2=>?_⟩,by dsimp only;omega,rfl,rfl,rfl,rfl,rfl,rfl,rfl,rfl,rfl,rfl,rfl,congrArg (AV.int .i64) (w64 (by omega) (by omega)),.refl _,.refl _,.refl _,trivial⟩
      rcases Nat.lt_succ_iff_lt_or_eq.1 hj with h3 | h3
      ·exact hka j h3 h1 h2
      ·subst h3;exact h
    ·refine ⟨⟨i+1,by omega,fun j hj h1 h2=>?_⟩,by dsimp only;omega,rfl,rfl,rfl,rfl,rfl,rfl,congrArg (AV.int .i64) e4,.refl _,.refl _,trivial⟩
     rcases Nat.lt_succ_iff_lt_or_eq.1 hj with h3 | h3
     ·exact ha j h3 h1 h2
     ·subst h3
      exact hW.trans (all2_true sameE _ _ g3 fun j h1 h2=>hka j (by omega) h1 h2)
  ·have hA:=all2_true sameSect a.sects b.sects h1 fun j h1 h2=>ha j (by omega) h1 h2
   have hO:sameObj a b=all2 sameGlob a.globs b.globs:=by simp[sameObj,h1,h2,hA]
   refine ⟨{i:Nat // i≤a.globs.length∧∀ j (h:j < i) (h1:j < a.globs.length) (h2:j < b.globs.length),sameGlob a.globs[j] b.globs[j]=true},fun i=>⟨[(3,.ptr 0 0 0),(81,.ro 5 (GGlob.ros a.globs)),(82,.int .i64 a.globs.length),(83,.int .i64 i.1)],[(0,.box (GObj.ro b) [])]⟩,fun i=>a.globs.length - i.1,⟨0,by omega,fun j h=>by omega⟩,?_,?_⟩
   ·exact ⟨rfl,rfl,rfl,congrArg (AV.int .i64) (by rw[ka]),rfl,.refl _,trivial⟩
   ·rintro ⟨i,hi,ha⟩
    dsimp only
    refine ⟨fun h=>?_,fun h=>⟨.of_eq (congrArg AV.bool ?_),trivial⟩⟩<;>simp only[ka,decide_eq_true_eq,decide_eq_false_iff_not] at h
    ·have hi:i < a.globs.length:=by omega
     have hi2:i < b.globs.length:=by omega
     have hS:=sameObj_globs i hi hi2
     refine ⟨Int.natCast_nonneg _,_,map_get (f:=GGlob.ro) _ _ hi,Int.natCast_nonneg _,_,map_get (f:=GGlob.ro) _ _ hi2,?_⟩
     refine ⟨fun g1=>⟨Int.natCast_nonneg _,_,map_get (f:=GGlob.ro) _ _ hi2,?_⟩,fun g1=>⟨rfl,.of_eq (congrArg AV.bool ?_),trivial⟩⟩<;>simp only[decide_eq_true_eq,decide_eq_false_iff_not] at g1
     ·simp only[Decidable.not_not] at g1
      refine ⟨[.ro,.ro],.bool (sameE a.globs[i].e b.globs[i].e),[none,none],impl_SameExpr _ _ (fa1.2 _ (List.getElem_mem _)) (fb1.2 _ (List.getElem_mem _)),trivial,?_⟩
      refine ⟨rfl,fun h=>⟨.of_eq (congrArg AV.bool ?_),trivial⟩,fun h=>?_⟩<;>simp only[Bool.not_eq_true',Bool.not_eq_false'] at h
      ·exact (hS (by simp[sameGlob,h])).symm
      ·refine ⟨⟨i+1,by omega,fun j hj h1 h2=>?_⟩,by dsimp only;omega,rfl,rfl,rfl,rfl,congrArg (AV.int .i64) (w64 (by omega) (by omega)),.refl _,trivial⟩
       rcases Nat.lt_succ_iff_lt_or_eq.1 hj with h3 | h3
       ·exact ha j h3 h1 h2
       ·subst h3
        simp[sameGlob,g1,h]
     ·exact (hS (by simp[sameGlob,g1])).symm
    ·rw[hO]
     exact (all2_true sameGlob _ _ h2 fun j h1 h2=>ha j (by omega) h1 h2).symm
end Go.Proofs.VI
