/- Contracts of functions, and what they rest on: l17rd. -/
import Derived.Test.YtjlonhiojgljcaaGreatA5
set_option linter.unusedVariables false
set_option linter.unusedSimpArgs false
set_option maxRecDepth 10000
set_option maxHeartbeats 4000000
namespace Go.Proofs.VI
open Go
abbrev RS:=Int×Bool
def wordS (b:List UInt8) (s:RS):Int×RS:=if s.2=true then (0,s.1,true) else match getW b s.1 with | some (n,q)=>(n,q,false) | none=>(0,s.1,true)
def textS (b:List UInt8) (s:RS):ByteArray×RS:=if s.2=true then (⟨#[]⟩,s.1,true) else match getT b s.1 with | some (n,q)=>(n,q,false) | none=>(⟨#[]⟩,s.1,true)
def okS (s:RS):Prop:= -9223372036854775808≤s.1∧s.1≤9223372036854775807
theorem wordS_ok {b:List UInt8} {s:RS} (hb:b.length≤1099511627776) (h:okS s):okS (wordS b s).2:=by
 rw[wordS];split
 ·exact h
 ·split
  ·rename_i hw;have:=getW_in hw;exact ⟨by dsimp only;omega,by dsimp only;omega⟩
  ·exact h
theorem textS_ok {b:List UInt8} {s:RS} (hb:b.length≤1099511627776) (h:okS s):okS (textS b s).2:=by
 rw[textS];split
 ·exact h
 ·split
  ·rename_i hw;have:=getT_in hw;exact ⟨by dsimp only;omega,by dsimp only;omega⟩
  ·exact h
def rdRow (b:List UInt8) (s:RS):List AV:=[.ro 1 (GByte.ros b),.int .i64 s.1,.bool s.2]
theorem reader_word (b:List UInt8) (s:RS) (hb:b.length≤1099511627776):Con 129 [.pb (rdRow b s)] (.int .i64 (wordS b s).1) [some (.pb (rdRow b (wordS b s).2))]:=by
 refine con Tryz.func129 ?_
 obtain ⟨p,bad⟩:=s
 have c:=impl_GetW b p hb
 rcases hw:getW b p with _ | ⟨n,q⟩<;>rw[hw] at c
 ·repeat' (first | refine And.intro (fun (h:_=true)=>?_) (fun (h:_=false)=>?_) | refine And.intro (fun (h:_=false)=>?_) (fun (h:_=true)=>?_) | refine And.intro (show regOk _ _=true from by kernel_rfl) ?_ | refine ⟨[.ro,.ro],.tup [.int .i64 _,.int .i64 _,.ff],[none,none],.nbr rfl c,trivial,?_⟩ | refine And.intro (Sim.nb ?_) (And.intro (Sim.nb ?_) trivial) | fail)
  all_goals simp_all[wordS,nb,nbA,nbC,nbL,tuple,rdRow]
 ·repeat' (first | refine And.intro (fun (h:_=true)=>?_) (fun (h:_=false)=>?_) | refine And.intro (fun (h:_=false)=>?_) (fun (h:_=true)=>?_) | refine And.intro (show regOk _ _=true from by kernel_rfl) ?_ | refine ⟨[.ro,.ro],.tup [.int .i64 _,.int .i64 _,.tt],[none,none],.nbr rfl c,trivial,?_⟩ | refine And.intro (Sim.nb ?_) (And.intro (Sim.nb ?_) trivial) | fail)
  all_goals simp_all[wordS,nb,nbA,nbC,nbL,tuple,rdRow]
theorem reader_text (b:List UInt8) (s:RS) (hb:b.length≤1099511627776):Con 177 [.pb (rdRow b s)] (.str (textS b s).1) [some (.pb (rdRow b (textS b s).2))]:=by
 refine con Tryz.func177 ?_
 obtain ⟨p,bad⟩:=s
 have c:=impl_GetText b p hb
 rcases hw:getT b p with _ | ⟨n,q⟩<;>rw[hw] at c
 ·repeat' (first | refine And.intro (fun (h:_=true)=>?_) (fun (h:_=false)=>?_) | refine And.intro (fun (h:_=false)=>?_) (fun (h:_=true)=>?_) | refine And.intro (show regOk _ _=true from by kernel_rfl) ?_ | refine ⟨[.ro,.ro],.tup [.str _,.int .i64 _,.ff],[none,none],.nbr rfl c,trivial,?_⟩ | refine And.intro (Sim.nb ?_) (And.intro (Sim.nb ?_) trivial) | fail)
  all_goals simp_all[textS,nb,nbA,nbC,nbL,tuple,rdRow]
 ·repeat' (first | refine And.intro (fun (h:_=true)=>?_) (fun (h:_=false)=>?_) | refine And.intro (fun (h:_=false)=>?_) (fun (h:_=true)=>?_) | refine And.intro (show regOk _ _=true from by kernel_rfl) ?_ | refine ⟨[.ro,.ro],.tup [.str _,.int .i64 _,.tt],[none,none],.nbr rfl c,trivial,?_⟩ | refine And.intro (Sim.nb ?_) (And.intro (Sim.nb ?_) trivial) | fail)
  all_goals simp_all[textS,nb,nbA,nbC,nbL,tuple,rdRow]
theorem spec_l17Num (b:List UInt8) (s:RS) (hb:b.length≤1099511627776) (hs:okS s):Con 132 [.pb (rdRow b s)] (.int .i64 (wordS b s).1) [some (.pb (rdRow b (wordS b s).2))]:=by
 refine con Tryz.func132 ?_
 obtain ⟨p,bad⟩:=s
 have c:=spec_GetW b p hb hs
 rcases hw:getW b p with _ | ⟨n,q⟩<;>rw[hw] at c
 ·repeat' (first | refine And.intro (fun (h:_=true)=>?_) (fun (h:_=false)=>?_) | refine And.intro (fun (h:_=false)=>?_) (fun (h:_=true)=>?_) | refine And.intro (show regOk _ _=true from by kernel_rfl) ?_ | refine ⟨[.ro,.ro],.tup [.int .i64 _,.int .i64 _,.ff],[none,none],.nbr rfl c,trivial,?_⟩ | refine And.intro (Sim.nb ?_) (And.intro (Sim.nb ?_) trivial) | fail)
  all_goals simp_all[wordS,nb,nbA,nbC,nbL,tuple,rdRow]
 ·repeat' (first | refine And.intro (fun (h:_=true)=>?_) (fun (h:_=false)=>?_) | refine And.intro (fun (h:_=false)=>?_) (fun (h:_=true)=>?_) | refine And.intro (show regOk _ _=true from by kernel_rfl) ?_ | refine ⟨[.ro,.ro],.tup [.int .i64 _,.int .i64 _,.tt],[none,none],.nbr rfl c,trivial,?_⟩ | refine And.intro (Sim.nb ?_) (And.intro (Sim.nb ?_) trivial) | fail)
  all_goals simp_all[wordS,nb,nbA,nbC,nbL,tuple,rdRow]
theorem spec_l17Text (b:List UInt8) (s:RS) (hb:b.length≤1099511627776) (hs:okS s):Con 134 [.pb (rdRow b s)] (.str (textS b s).1) [some (.pb (rdRow b (textS b s).2))]:=by
 refine con Tryz.func134 ?_
 obtain ⟨p,bad⟩:=s
 have c:=spec_GetText b p hb hs
 rcases hw:getT b p with _ | ⟨n,q⟩<;>rw[hw] at c
 ·repeat' (first | refine And.intro (fun (h:_=true)=>?_) (fun (h:_=false)=>?_) | refine And.intro (fun (h:_=false)=>?_) (fun (h:_=true)=>?_) | refine And.intro (show regOk _ _=true from by kernel_rfl) ?_ | refine ⟨[.ro,.ro],.tup [.str _,.int .i64 _,.ff],[none,none],.nbr rfl c,trivial,?_⟩ | refine And.intro (Sim.nb ?_) (And.intro (Sim.nb ?_) trivial) | fail)
  all_goals simp_all[textS,nb,nbA,nbC,nbL,tuple,rdRow]
 ·repeat' (first | refine And.intro (fun (h:_=true)=>?_) (fun (h:_=false)=>?_) | refine And.intro (fun (h:_=false)=>?_) (fun (h:_=true)=>?_) | refine And.intro (show regOk _ _=true from by kernel_rfl) ?_ | refine ⟨[.ro,.ro],.tup [.str _,.int .i64 _,.tt],[none,none],.nbr rfl c,trivial,?_⟩ | refine And.intro (Sim.nb ?_) (And.intro (Sim.nb ?_) trivial) | fail)
  all_goals simp_all[textS,nb,nbA,nbC,nbL,tuple,rdRow]
def headS (b:List UInt8) (k:Int) (s:RS):Int×ByteArray×Nat×RS:=
 if k=1∨k=11 then ((wordS b s).1,⟨#[]⟩,0,(wordS b s).2) else if k=2∨k=12 then (0,(textS b s).1,0,(textS b s).2)
 else (0,⟨#[]⟩,if k=4 then 1 else if inI k 5 10=true then 2 else 0,s)
def partsS (f:RS→GExpr×RS):Nat→RS→List GExpr×RS
 | 0,s=>([],s)
 | n+1,s=>((partsS f n s).1++[(f (partsS f n s).2).1],(f (partsS f n s).2).2)
def exprS (v:Bool) (b:List UInt8):Nat→RS→GExpr×RS
 | 0,s=>(if v=true then .mk (wordS b s).1 0 ⟨#[]⟩ [] else .mk 0 0 ⟨#[]⟩ [],(wordS b s).2.1,true)
 | d+1,s=>if (wordS b s).2.2=true then (if v=true then .mk (wordS b s).1 0 ⟨#[]⟩ [] else .mk 0 0 ⟨#[]⟩ [],(wordS b s).2.1,true)
  else (.mk (wordS b s).1 (headS b (wordS b s).1 (wordS b s).2).1 (headS b (wordS b s).1 (wordS b s).2).2.1 (partsS (exprS v b d) (headS b (wordS b s).1 (wordS b s).2).2.2.1 (headS b (wordS b s).1 (wordS b s).2).2.2.2).1,
   (partsS (exprS v b d) (headS b (wordS b s).1 (wordS b s).2).2.2.1 (headS b (wordS b s).1 (wordS b s).2).2.2.2).2)
theorem headS_ok {b:List UInt8} {k:Int} {s:RS} (hb:b.length≤1099511627776) (h:okS s):okS (headS b k s).2.2.2∧(headS b k s).2.2.1≤2:=by
 rw[headS];split
 ·exact ⟨wordS_ok hb h,by simp⟩
 ·split
  ·exact ⟨textS_ok hb h,by simp⟩
  ·refine ⟨h,?_⟩
   dsimp only;split
   ·omega
   ·split<;>omega
theorem partsS_ok {f:RS→GExpr×RS} (hf:∀ s,okS s→okS (f s).2):∀ n s,okS s→okS (partsS f n s).2
 | 0,s,h=>h
 | n+1,s,h=>hf _ (partsS_ok hf n s h)
theorem partsS_len {f:RS→GExpr×RS}:∀ n s,(partsS f n s).1.length=n
 | 0,s=>rfl
 | n+1,s=>by rw[partsS,List.length_append,partsS_len n s];rfl
theorem exprS_ok {v:Bool} {b:List UInt8} (hb:b.length≤1099511627776):∀ d s,okS s→okS (exprS v b d s).2
 | 0,s,h=>wordS_ok (s:=s) hb h
 | d+1,s,h=>by
  rw[exprS];split
  ·exact wordS_ok (s:=s) hb h
  ·exact partsS_ok (fun s h=>exprS_ok hb d s h) _ _ (headS_ok hb (wordS_ok hb h)).1
theorem simN (k n:Int) (s:ByteArray):Sim (.agg [.int .i64 k,.int .i64 n,.str s,.nils]) (.agg (GExpr.ow (.mk k n s []))):= .agg (.cons (.refl _) (.cons (.refl _) (.cons (.refl _) (.cons (.nil 4) (.refl _)))))
theorem reader_expr (b:List UInt8) (hb:b.length≤1099511627776):∀ (d:Nat) (s:RS) (hd:d≤6) (hs:okS s),Con 115 [.pb (rdRow b s),.int .i64 d] (.agg (GExpr.ow (exprS false b d s).1)) [some (.pb (rdRow b (exprS false b d s).2)),none]:=by
 intro d
 induction d with
 | zero=>
  intro s hd hs
  refine con Tryz.func115 ?_
  refine ⟨[.mut],.int .i64 (wordS b s).1,[some (.pb (rdRow b (wordS b s).2))],reader_word b s hb,trivial,?_⟩
  refine ⟨fun h=>?_,fun h=>absurd h (by decide)⟩
  refine ⟨simN 0 0 _,.nb ?_,trivial⟩
  simp[nb,nbA,nbL,nbC,rdRow,exprS]
 | succ d ih=>
  intro s hd hs
  have e1:IntKind.wrap .i64 (((d+1:Nat):Int) - 1)=(d:Int):=by rw[w64 (by omega) (by omega)];omega
  have hw1:=wordS_ok hb hs
  have hh:=headS_ok (k:=(wordS b s).1) hb hw1
  refine con Tryz.func115 ?_
  refine ⟨[.mut],.int .i64 (wordS b s).1,[some (.pb (rdRow b (wordS b s).2))],reader_word b s hb,trivial,?_⟩
  refine ⟨fun h=>absurd (of_decide_eq_true h) (by omega),fun h=>?_⟩
  clear h
  refine ⟨fun h=>?_,fun h=>?_⟩
  ·refine ⟨(by rw[exprS,if_pos h];exact simN 0 0 _),.nb ?_,trivial⟩
   rw[exprS,if_pos h]
   simp[nb,nbA,nbL,nbC,rdRow,h]
  ·have hE:exprS false b (d+1) s=(.mk (wordS b s).1 (headS b (wordS b s).1 (wordS b s).2).1 (headS b (wordS b s).1 (wordS b s).2).2.1 (partsS (exprS false b d) (headS b (wordS b s).1 (wordS b s).2).2.2.1 (headS b (wordS b s).1 (wordS b s).2).2.2.2).1,(partsS (exprS false b d) (headS b (wordS b s).1 (wordS b s).2).2.2.1 (headS b (wordS b s).1 (wordS b s).2).2.2.2).2):=by rw[exprS,if_neg (by rw[h];simp)]
   rw[hE]
   generalize hK:(wordS b s).1=k at hh
   generalize hS1:(wordS b s).2=s1 at hh hw1 h
   generalize hH:headS b k s1=H at hh
   clear hE
   repeat' (first | refine And.intro (fun (h:_=true)=>?_) (fun (h:_=false)=>?_) | refine And.intro (fun (h:_=false)=>?_) (fun (h:_=true)=>?_) | refine And.intro (show regOk _ _=true from by kernel_rfl) ?_ | refine ⟨[.mut],.int .i64 _,[_],reader_word b s1 hb,(by first | exact trivial | exact ⟨trivial,trivial⟩ | exact ⟨GByte.nro _,trivial⟩ | exact ⟨GExpr.noRo_ow _,trivial⟩ | exact ⟨GExpr.nro _,trivial⟩ | exact ⟨GInt.nro _,trivial⟩ | exact ⟨GString.nro _,trivial⟩),?_⟩ | refine ⟨[.mut],.str _,[_],reader_text b s1 hb,(by first | exact trivial | exact ⟨trivial,trivial⟩ | exact ⟨GByte.nro _,trivial⟩ | exact ⟨GExpr.noRo_ow _,trivial⟩ | exact ⟨GExpr.nro _,trivial⟩ | exact ⟨GInt.nro _,trivial⟩ | exact ⟨GString.nro _,trivial⟩),?_⟩ | refine ⟨[.ro],.bool _,[none],impl_isTwo k,(by first | exact trivial | exact ⟨trivial,trivial⟩ | exact ⟨GByte.nro _,trivial⟩ | exact ⟨GExpr.noRo_ow _,trivial⟩ | exact ⟨GExpr.nro _,trivial⟩ | exact ⟨GInt.nro _,trivial⟩ | exact ⟨GString.nro _,trivial⟩),?_⟩ | fail)
   all_goals (refine ⟨{q:Nat×List GExpr×RS // q.1≤H.2.2.1∧partsS (exprS false b d) q.1 H.2.2.2=q.2∧q.2.1.length=q.1∧okS q.2.2},fun q=>⟨[(0,.ptr 0 0 0),(1,.int .i64 ((d+1:Nat):Int)),(4,.ptr 1 0 0),(5,.ptr 2 0 0),(54,.int .i64 H.2.2.1),(55,.int .i64 q.1.1)],[(0,.box (rdRow b q.1.2.2) []),(1,.box [.int .i64 0,.int .i64 0,.str ⟨#[]⟩,.nils] []),(2,.box [.int .i64 k,.int .i64 H.1,.str H.2.1,.ow 4 (GExpr.ows q.1.2.1)] [])]⟩,fun q=>H.2.2.1 - q.1.1,⟨(0,[],H.2.2.2),Nat.zero_le _,rfl,rfl,hh.1⟩,?_,?_⟩)
   all_goals first
    | (simp only[decide_eq_true_eq,decide_eq_false_iff_not] at*
       simp [headS, *] at hH
       subst hH
       repeat' (first | exact trivial | refine And.intro rfl ?_ | refine And.intro (SimRows.refl _) ?_ | refine And.intro (.cons (.cons (.refl _) (.cons (.refl _) (.cons (.refl _) (.cons (.nil 4) (.refl _))))) (.refl _)) ?_)
       done)
    | (rintro ⟨⟨i,l,st⟩,hi,hp,hl,hst⟩
       dsimp only at hi hp hl hst ⊢
       refine ⟨fun h => ?_, fun h => ⟨?_, .nb ?_, trivial⟩⟩ <;> simp only [decide_eq_true_eq, decide_eq_false_iff_not] at h
       · refine ⟨[.mut, .ro], .agg (GExpr.ow (exprS false b d st).1), [some (.pb (rdRow b (exprS false b d st).2)), none], by rw [e1]; exact ih st (by omega) hst, trivial, ?_⟩
         refine ⟨trivial, ?_, ⟨⟨trivial, trivial, trivial, trivial, trivial⟩, trivial⟩, ?_⟩
         · show ((GExpr.ows l).length + 1) * 56 ≤ _
           rw [ows_len]; omega
         refine ⟨⟨(i + 1, l ++ [(exprS false b d st).1], (exprS false b d st).2), by omega, by rw [partsS, hp], by rw [List.length_append, hl]; rfl, exprS_ok hb d st hst⟩, by dsimp only; omega, rfl, rfl, rfl, rfl, rfl, rfl, rfl, rfl, congrArg (AV.int .i64) (w64 (by omega) (by omega)), .refl _, .refl _, .of_eq ?_, trivial⟩
         exact congrArg (fun z => [[AV.int .i64 k, .int .i64 H.1, .str H.2.1, .ow 4 z]]) (snoc_row l (exprS false b d st).1)
       · have : i = H.2.2.1 := by omega
         subst this
         rw [hp]; exact .refl _
       · have : i = H.2.2.1 := by omega
         subst this
         rw [hp]; rfl)
end Go.Proofs.VI
