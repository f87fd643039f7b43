/- Contracts of functions, and what they rest on: frz libsort. -/
import Derived.Test.YtjlonhiojgljcaaGreatD1
import Derived.Sort.Row
import Derived.Sort.Grow
import Derived.Sort.EncStr
set_option linter.unusedVariables false
set_option linter.unusedSimpArgs false
set_option maxRecDepth 10000
set_option maxHeartbeats 4000000
namespace Go.Proofs.VI
open Go
theorem Contract.sim {P:Program} {f:FuncId} {args:List AV} {res res':AV} {outs:List (Option AV)} (ho:∀ o∈outs,o=none) (hs:Sim res res') (h:Contract P f args res outs):Contract P f args res' outs:=by
 intro κ w vals hlow hfr hrel
 refine callRun_mono (fun v w' hR=>?_) (h κ w vals hlow hfr hrel)
 obtain ⟨κ1,hrv,hro,ST,hlow',hfr'⟩:=hR
 obtain ⟨κ2,x2,hrv2⟩:=Sim_sound w' hs noL κ1 (args.length,[]) _ hrv
 have nones:∀ {outs:List (Option AV)} {j:Nat} {vals:List Value},(∀ o∈outs,o=none)→relOuts w' κ2 j outs vals:=fun {outs}=>by
  induction outs with
  | nil=>intro j vals _;trivial
  | cons o outs ih=>
   intro j vals hn
   cases vals with
   | nil=>trivial
   | cons u us=>
    have e:=hn o List.mem_cons_self
    subst e
    exact ⟨trivial,ih fun o ho=>hn o (List.mem_cons_of_mem _ ho)⟩
 refine ⟨κ2,hrv2,nones ho,ST.trans ⟨rfl,rfl,rfl,Nat.le_refl _,fun _ _ _=>rfl,fun b hb=>(x2.imm w' b hb).1,fun b _ hb=>?_,fun _ C _ _ h=>⟨C,h,rfl⟩⟩,fun b g hb=>?_,fun b id p hb=>?_⟩
 ·rcases x2 b with e | ⟨_,K,_,e⟩
  ·rw[e];exact hb
  ·rw[hb] at e;cases e
 ·rcases x2 b with e | ⟨_,K,_,e⟩
  ·rw[e] at hb;exact hlow' b g hb
  ·exact hlow' b _ e
 ·rcases x2 b with e | ⟨e,_⟩
  ·rw[e] at hb;exact hfr' b id p hb
  ·rw[e] at hb;cases hb
structure RowEnd (w w':World) (b:Nat) (Q:Array Value→Array Value→Prop):Prop where
 os:w'.os=w.os
 tape:w'.tape=w.tape
 output:w'.output=w.output
 size:w.heap.size≤w'.heap.size
 other:∀ b',b' < w.heap.size→b'≠b→w'.heap[b']?=w.heap[b']?
 row:∀ C t fr,w.heap[b]?=some (.cells C t fr)→∃ C',w'.heap[b]?=some (.cells C' t fr)∧C'.size=C.size∧Q C C'
theorem RowEnd.mono {w w':World} {b:Nat} {Q R:Array Value→Array Value→Prop} (h:RowEnd w w' b Q) (hh:∀ C C',Q C C'→R C C'):RowEnd w w' b R:=
 ⟨h.os,h.tape,h.output,h.size,h.other,fun C t fr hb=>by obtain ⟨C',a,b,c⟩:=h.row C t fr hb;exact ⟨C',a,b,hh C C' c⟩⟩
end Go.Proofs.VI
