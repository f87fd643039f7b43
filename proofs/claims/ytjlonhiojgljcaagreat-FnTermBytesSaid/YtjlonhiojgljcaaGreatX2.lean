/- Contracts of functions, and what they rest on: sortlaw. -/
import Derived.Test.YtjlonhiojgljcaaGreatD1
import Derived.Lib.SlicesCompact
set_option linter.unusedVariables false
set_option linter.unusedSimpArgs false
set_option maxRecDepth 10000
set_option maxHeartbeats 4000000
namespace Go.Proofs.VI
open Go
def kS (s:ByteArray):List UInt8:=s.data.toList
theorem kS_inj {a b:ByteArray} (h:kS a=kS b):a=b:=by
 cases a with | mk x=>cases b with | mk y=>rw[show x=y from Array.toList_inj.1 h]
theorem ltL_irrefl:∀ x:List UInt8,¬ x < x:=List.lt_irrefl
theorem ltL_trans {x y z:List UInt8} (h:x < y) (k:y < z):x < z:=List.lt_trans h k
theorem ltL_tri (x y:List UInt8):x < y∨x=y∨y < x:=by
 rcases Classical.em (x < y) with h | h
 ·exact .inl h
 ·rcases Classical.em (y < x) with k | k
  ·exact .inr (.inr k)
  ·exact .inr (.inl (List.le_antisymm (List.not_lt.1 k) (List.not_lt.1 h)))
def SortedS (l:List ByteArray):Prop:=l.Pairwise fun a b=>kS a < kS b
theorem any_mem (l:List ByteArray) (s:ByteArray):(l.any fun x=>decide (x=s))=true↔s∈l:=by
 rw[List.any_eq_true]
 constructor
 ·rintro ⟨x,hx,h⟩
  rw[←of_decide_eq_true h];exact hx
 ·intro h;exact ⟨s,h,decide_eq_true rfl⟩
def insS (l:List ByteArray) (s:ByteArray):List ByteArray:=if (l.any fun x=>decide (x=s))=true then l else (l.filter fun x=>decide (kS x < kS s))++s::(l.filter fun x=>decide (kS s < kS x))
theorem insS_mem (l:List ByteArray) (s x:ByteArray):x∈insS l s↔x=s∨x∈l:=by
 unfold insS
 split
 ·rename_i h
  rw[any_mem] at h
  exact ⟨.inr,fun k=>k.elim (fun e=>e▸h) id⟩
 ·rename_i h
  rw[any_mem] at h
  simp only[List.mem_append,List.mem_filter,List.mem_cons,decide_eq_true_eq]
  constructor
  ·rintro (⟨a,_⟩ | a | ⟨a,_⟩)
   ·exact .inr a
   ·exact .inl a
   ·exact .inr a
  ·rintro (a | a)
   ·exact .inr (.inl a)
   ·rcases ltL_tri (kS x) (kS s) with k | k | k
    ·exact .inl ⟨a,k⟩
    ·exact absurd (kS_inj k▸a) h
    ·exact .inr (.inr ⟨a,k⟩)
theorem insS_sorted {l:List ByteArray} (h:SortedS l) (s:ByteArray):SortedS (insS l s):=by
 unfold insS
 split
 ·exact h
 ·refine List.pairwise_append.2 ⟨h.filter _,List.pairwise_cons.2 ⟨fun y hy=>?_,h.filter _⟩,fun x hx y hy=>?_⟩
  ·simpa using (List.mem_filter.1 hy).2
  ·have hx:=(List.mem_filter.1 hx).2
   simp only[decide_eq_true_eq] at hx
   rcases List.mem_cons.1 hy with rfl | hy
   ·exact hx
   ·have hy:=(List.mem_filter.1 hy).2
    simp only[decide_eq_true_eq] at hy
    exact ltL_trans hx hy
end Go.Proofs.VI
