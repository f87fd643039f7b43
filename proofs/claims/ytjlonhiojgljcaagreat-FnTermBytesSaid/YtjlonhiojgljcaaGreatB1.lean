/- Contracts of functions, and what they rest on: walk l14. -/
import Derived.Test.YtjlonhiojgljcaaGreatD3
set_option linter.unusedVariables false
set_option linter.unusedSimpArgs false
set_option maxRecDepth 10000
set_option maxHeartbeats 4000000
namespace Go.Proofs.VI
open Go
def placeOf (l:List GString) (s:ByteArray):Int:=if l.findIdx (fun x=>decide (x=s)) < l.length then (l.findIdx (fun x=>decide (x=s)):Int) else -1
theorem placeOf_hit (l:List GString) (s:ByteArray) (i:Nat) (hi:i < l.length) (h:i≤l.findIdx (fun x=>decide (x=s))) (hs:l[i]=s):placeOf l s=i:=by
 have e:l.findIdx (fun x=>decide (x=s))=i:=(List.findIdx_eq hi).2 ⟨by simpa using hs,fun j hj=>by simpa using List.not_of_lt_findIdx (show j < l.findIdx (fun x=>decide (x=s)) by omega)⟩
 rw[placeOf,e,if_pos hi]
theorem placeOf_step (l:List GString) (s:ByteArray) (i:Nat) (hi:i < l.length) (h:i≤l.findIdx (fun x=>decide (x=s))) (hs:¬ l[i]=s):i+1≤l.findIdx (fun x=>decide (x=s)):=by
 rcases Nat.lt_or_ge i (l.findIdx (fun x=>decide (x=s))) with h2 | h2
 ·exact h2
 ·have e:l.findIdx (fun x=>decide (x=s))=i:=by omega
  have:=((List.findIdx_eq hi).1 e).1
  simp only[decide_eq_true_eq] at this
  exact absurd this hs
theorem placeOf_miss (l:List GString) (s:ByteArray) (h:l.length≤l.findIdx (fun x=>decide (x=s))):placeOf l s= -1:=by
 rw[placeOf,if_neg (by omega)]
theorem placeOf_lt (l:List GString) (s:ByteArray): -1≤placeOf l s∧placeOf l s < l.length:=by
 rw[placeOf];split<;>omega
theorem spec_l9At (l:List GString) (s:ByteArray) (hl:l.length≤1099511627776):Con 144 [.ro 1 (GString.ros l),.str s] (.int .i64 (placeOf l s)) [none,none]:=by
 refine con Tryz.func144 ?_
 have hlen:(l.map GString.ro).length=l.length:=by simp
 refine ⟨{i:Nat // i≤l.length∧i≤l.findIdx (fun x=>decide (x=s))},fun i=>⟨[(0,.ro 1 (l.map GString.ro)),(1,.str s),(5,.int .i64 i.1)],[]⟩,fun i=>l.length - i.1,⟨0,by omega,by omega⟩,?_,?_⟩
 ·exact ⟨rfl,rfl,rfl,trivial⟩
 ·rintro ⟨i,hi,hf⟩
  dsimp only
  refine ⟨fun h=>?_,fun h=>⟨.i64 ?_,trivial⟩⟩<;>simp only[hlen,decide_eq_true_eq,decide_eq_false_iff_not] at h
  ·have hi:i < l.length:=by omega
   refine ⟨Int.natCast_nonneg _,_,map_get _ _ hi,fun h=>⟨.i64 ?_,trivial⟩,fun h=>?_⟩<;>simp only[decide_eq_true_eq,decide_eq_false_iff_not] at h
   ·exact (placeOf_hit l s i hi hf h).symm
   ·exact ⟨⟨i+1,by omega,placeOf_step l s i hi hf h⟩,by dsimp only;omega,rfl,rfl,congrArg (AV.int .i64) (w64 (by omega) (by omega)),trivial⟩
  ·rw[placeOf_miss l s (by omega)]
theorem impl_placeIn (l:List GString) (s:ByteArray) (hl:l.length≤1099511627776):Con 151 [.ro 1 (GString.ros l),.str s] (.int .i64 (placeOf l s)) [none,none]:=by
 refine con Tryz.func151 ?_
 have hlen:(l.map GString.ro).length=l.length:=by simp
 refine ⟨{i:Nat // i≤l.length∧i≤l.findIdx (fun x=>decide (x=s))},fun i=>⟨[(1,.str s),(7,.ro 1 (l.map GString.ro)),(8,.int .i64 l.length),(9,.int .i64 i.1)],[]⟩,fun i=>l.length - i.1,⟨0,by omega,by omega⟩,?_,?_⟩
 ·exact ⟨rfl,rfl,congrArg (AV.int .i64) (by rw[hlen]),rfl,trivial⟩
 ·rintro ⟨i,hi,hf⟩
  dsimp only
  refine ⟨fun h=>?_,fun h=>⟨.i64 ?_,trivial⟩⟩<;>simp only[decide_eq_true_eq,decide_eq_false_iff_not] at h
  ·have hi:i < l.length:=by omega
   refine ⟨Int.natCast_nonneg _,_,map_get _ _ hi,fun h=>⟨.i64 ?_,trivial⟩,fun h=>?_⟩<;>simp only[decide_eq_true_eq,decide_eq_false_iff_not] at h
   ·exact (placeOf_hit l s i hi hf h).symm
   ·exact ⟨⟨i+1,by omega,placeOf_step l s i hi hf h⟩,by dsimp only;omega,rfl,rfl,rfl,congrArg (AV.int .i64) (w64 (by omega) (by omega)),trivial⟩
  ·rw[placeOf_miss l s (by omega)]
def substOne (ps:List GString) (rs:List (List GToken)) (t:GToken):List GToken:=
 if (if t.k=1 then placeOf ps t.s else -1) < 0 then [t] else rs.getD (if t.k=1 then placeOf ps t.s else -1).toNat []
def subst (l:List GToken) (ps:List GString) (rs:List (List GToken)):List GToken:=l.flatMap (substOne ps rs)
end Go.Proofs.VI
