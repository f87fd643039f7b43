/- Contracts of functions, and what they rest on: l17rs. -/
import Derived.Test.YtjlonhiojgljcaaGreatA6
set_option linter.unusedVariables false
set_option linter.unusedSimpArgs false
set_option maxRecDepth 10000
set_option maxHeartbeats 4000000
namespace Go.Proofs.VI
open Go
theorem in510 (k:Int):inI k 5 10=(decide (k=5)||decide (k=6)||decide (k=7)||decide (k=8)||decide (k=9)||decide (k=10)):=by
 rw[Bool.eq_iff_iff]
 simp[inI];omega
theorem spec_l17Expr (b:List UInt8) (hb:b.length≤1099511627776):∀ (d:Nat) (s:RS) (hd:d≤6) (hs:okS s),Con 116 [.pb (rdRow b s),.int .i64 (7 - d)] (.agg (GExpr.ow (exprS true b d s).1)) [some (.pb (rdRow b (exprS true b d s).2)),none]:=by
 intro d
 induction d with
 | zero=>
  intro s hd hs
  refine con Tryz.func116 ?_
  refine ⟨[.mut],.int .i64 (wordS b s).1,[some (.pb (rdRow b (wordS b s).2))],spec_l17Num b s hb hs,trivial,?_⟩
  refine ⟨fun h=>⟨fun h2=>⟨simN _ 0 _,.nb ?_,trivial⟩,fun h2=>absurd (of_decide_eq_false h2) (by omega)⟩,fun h=>⟨simN _ 0 _,.nb ?_,trivial⟩⟩
  ·simp[nb,nbA,nbL,nbC,rdRow,exprS]
  ·simp[nb,nbA,nbL,nbC,rdRow,exprS]
 | succ d ih=>
  intro s hd hs
  have e1:IntKind.wrap .i64 ((7:Int) - ((d+1:Nat):Int)+1)=7 - (d:Int):=by rw[w64 (by omega) (by omega)];omega
  have hw1:=wordS_ok hb hs
  have hh:=headS_ok (k:=(wordS b s).1) hb hw1
  refine con Tryz.func116 ?_
  refine ⟨[.mut],.int .i64 (wordS b s).1,[some (.pb (rdRow b (wordS b s).2))],spec_l17Num b s hb hs,trivial,?_⟩
  refine ⟨fun h=>⟨fun h2=>absurd (of_decide_eq_true h2) (by omega),fun h2=>?_⟩,fun h=>?_⟩
  rotate_left
  ·refine ⟨(by rw[exprS,if_pos h];exact simN _ 0 _),.nb ?_,trivial⟩
   rw[exprS,if_pos h]
   simp[nb,nbA,nbL,nbC,rdRow]
  ·clear h2
   have hE:exprS true b (d+1) s=(.mk (wordS b s).1 (headS b (wordS b s).1 (wordS b s).2).1 (headS b (wordS b s).1 (wordS b s).2).2.1 (partsS (exprS true b d) (headS b (wordS b s).1 (wordS b s).2).2.2.1 (headS b (wordS b s).1 (wordS b s).2).2.2.2).1,(partsS (exprS true b d) (headS b (wordS b s).1 (wordS b s).2).2.2.1 (headS b (wordS b s).1 (wordS b s).2).2.2.2).2):=by rw[exprS,if_neg (by rw[h];simp)]
   rw[hE]
   generalize hK:(wordS b s).1=k at hh
   generalize hS1:(wordS b s).2=s1 at hh hw1 h
   generalize hH:headS b k s1=H at hh
   clear hE
   repeat' (first | refine And.intro (fun (h:_=true)=>?_) (fun (h:_=false)=>?_) | refine And.intro (fun (h:_=false)=>?_) (fun (h:_=true)=>?_) | refine And.intro (show regOk _ _=true from by kernel_rfl) ?_ | refine ⟨[.mut],.int .i64 _,[_],spec_l17Num b s1 hb hw1,(by first | exact trivial | exact ⟨trivial,trivial⟩ | exact ⟨GByte.nro _,trivial⟩ | exact ⟨GExpr.noRo_ow _,trivial⟩ | exact ⟨GExpr.nro _,trivial⟩ | exact ⟨GInt.nro _,trivial⟩ | exact ⟨GString.nro _,trivial⟩),?_⟩ | refine ⟨[.mut],.str _,[_],spec_l17Text b s1 hb hw1,(by first | exact trivial | exact ⟨trivial,trivial⟩ | exact ⟨GByte.nro _,trivial⟩ | exact ⟨GExpr.noRo_ow _,trivial⟩ | exact ⟨GExpr.nro _,trivial⟩ | exact ⟨GInt.nro _,trivial⟩ | exact ⟨GString.nro _,trivial⟩),?_⟩ | fail)
   all_goals (refine ⟨{q:Nat×List GExpr×RS // q.1≤H.2.2.1∧partsS (exprS true b d) q.1 H.2.2.2=q.2∧q.2.1.length=q.1∧okS q.2.2},fun q=>⟨[(0,.ptr 0 0 0),(1,.int .i64 (7 - ((d+1:Nat):Int))),(4,.ptr 1 0 0),(5,.ptr 2 0 0),(6,.int .i64 H.2.2.1),(7,.int .i64 q.1.1)],[(0,.box (rdRow b q.1.2.2) []),(1,.box [.int .i64 0,.int .i64 0,.str ⟨#[]⟩,.nils] []),(2,.box [.int .i64 k,.int .i64 H.1,.str H.2.1,.ow 4 (GExpr.ows q.1.2.1)] [])]⟩,fun q=>H.2.2.1 - q.1.1,⟨(0,[],H.2.2.2),Nat.zero_le _,rfl,rfl,hh.1⟩,?_,?_⟩)
   all_goals first
    | (simp only[decide_eq_true_eq,decide_eq_false_iff_not] at*
       simp [headS, in510, *] at hH
       subst hH
       repeat' (first | exact trivial | refine And.intro rfl ?_ | refine And.intro (SimRows.refl _) ?_ | refine And.intro (.cons (.cons (.refl _) (.cons (.refl _) (.cons (.refl _) (.cons (.nil 4) (.refl _))))) (.refl _)) ?_)
       done)
    | (rintro ⟨⟨i,l,st⟩,hi,hp,hl,hst⟩
       dsimp only at hi hp hl hst ⊢
       refine ⟨fun h => ?_, fun h => ⟨?_, .nb ?_, trivial⟩⟩ <;> simp only [decide_eq_true_eq, decide_eq_false_iff_not] at h
       · refine ⟨[.mut, .ro], .agg (GExpr.ow (exprS true b d st).1), [some (.pb (rdRow b (exprS true b d st).2)), none], by rw [e1]; exact ih st (by omega) hst, trivial, ?_⟩
         refine ⟨trivial, ?_, ⟨⟨trivial, trivial, trivial, trivial, trivial⟩, trivial⟩, ?_⟩
         · show ((GExpr.ows l).length + 1) * 56 ≤ _
           rw [ows_len]; omega
         refine ⟨⟨(i + 1, l ++ [(exprS true b d st).1], (exprS true b d st).2), by omega, by rw [partsS, hp], by rw [List.length_append, hl]; rfl, exprS_ok hb d st hst⟩, by dsimp only; omega, rfl, rfl, rfl, rfl, rfl, rfl, rfl, rfl, congrArg (AV.int .i64) (w64 (by omega) (by omega)), .refl _, .refl _, .of_eq ?_, trivial⟩
         exact congrArg (fun z => [[AV.int .i64 k, .int .i64 H.1, .str H.2.1, .ow 4 z]]) (snoc_row l (exprS true b d st).1)
       · have : i = H.2.2.1 := by omega
         subst this
         rw [hp]; exact .refl _
       · have : i = H.2.2.1 := by omega
         subst this
         rw [hp]; rfl)
theorem partsS_same {b:List UInt8} {d:Nat} (ih:∀ s,(exprS true b d s).2=(exprS false b d s).2∧((exprS false b d s).2.2=false→(exprS true b d s).1=(exprS false b d s).1)) (hst:∀ s,s.2=true→(exprS false b d s).2.2=true):∀ n s,
  (partsS (exprS true b d) n s).2=(partsS (exprS false b d) n s).2∧((partsS (exprS false b d) n s).2.2=false→(partsS (exprS true b d) n s).1=(partsS (exprS false b d) n s).1)
 | 0,s=>⟨rfl,fun _=>rfl⟩
 | n+1,s=>by
  obtain ⟨h1,h2⟩:=partsS_same ih hst n s
  simp only[partsS]
  rw[h1]
  obtain ⟨h3,h4⟩:=ih (partsS (exprS false b d) n s).2
  refine ⟨h3,fun h=>?_⟩
  have:(partsS (exprS false b d) n s).2.2=false:=by
   cases hb:(partsS (exprS false b d) n s).2.2 with
   | false=>rfl
   | true=>rw[hst _ hb] at h;cases h
  rw[h2 this,h4 h]
theorem wordS_bad (b:List UInt8) (s:RS) (h:s.2=true):(wordS b s).2.2=true:=by rw[wordS,if_pos h]
theorem exprS_bad (v:Bool) (b:List UInt8) (d:Nat) (s:RS) (h:s.2=true):(exprS v b d s).2.2=true:=by
 cases d with
 | zero=>rfl
 | succ d=>rw[exprS,if_pos (wordS_bad b s h)]
theorem exprS_same (b:List UInt8):∀ d s,(exprS true b d s).2=(exprS false b d s).2∧((exprS false b d s).2.2=false→(exprS true b d s).1=(exprS false b d s).1)
 | 0,s=>⟨rfl,fun h=>by cases h⟩
 | d+1,s=>by
  simp only[exprS]
  by_cases hw:(wordS b s).2.2=true
  ·simp only[if_pos hw];exact ⟨trivial,fun h=>by cases h⟩
  ·simp only[if_neg hw]
   obtain ⟨h1,h2⟩:=partsS_same (exprS_same b d) (exprS_bad false b d) (headS b (wordS b s).1 (wordS b s).2).2.2.1 (headS b (wordS b s).1 (wordS b s).2).2.2.2
   exact ⟨h1,fun h=>by rw[h2 h]⟩
theorem wordS_in (b:List UInt8) (s:RS):0≤(wordS b s).1∧(wordS b s).1≤65535:=by
 rw[wordS];split
 ·simp
 ·split
  ·rename_i hw;have:=getW_in hw;dsimp only;omega
  ·simp
theorem textS_in (b:List UInt8) (s:RS):(textS b s).1.size≤1000:=by
 rw[textS];split
 ·simp[ByteArray.size]
 ·split
  ·rename_i hw;exact (getT_in hw).1
  ·simp[ByteArray.size]
theorem partsS_all {f:RS→GExpr×RS} {Q:GExpr→Prop} (hf:∀ s,Q (f s).1):∀ n s,∀ x∈(partsS f n s).1,Q x
 | 0,s,x,hx=>by simp[partsS] at hx
 | n+1,s,x,hx=>by
  simp only[partsS] at hx
  rcases List.mem_append.1 hx with h | h
  ·exact partsS_all hf n s x h
  ·rw[List.mem_singleton] at h;subst h;exact hf _
theorem headS_in (b:List UInt8) (k:Int) (s:RS):0≤(headS b k s).1∧(headS b k s).1≤65535∧(headS b k s).2.1.size≤1000∧(headS b k s).2.2.1≤2:=by
 rw[headS];split
 ·have:=wordS_in b s;exact ⟨this.1,this.2,by simp[ByteArray.size],by simp⟩
 ·split
  ·have:=textS_in b s;exact ⟨by simp,by simp,this,by simp⟩
  ·refine ⟨by simp,by simp,by simp[ByteArray.size],?_⟩
   dsimp only;split
   ·omega
   ·split<;>omega
theorem exprS_good (v:Bool) (b:List UInt8):∀ d s,GExpr.fit (exprS v b d s).1∧GExpr.ok (exprS v b d s).1
 | 0,s=>by
  have hw:=wordS_in b s
  rw[exprS]
  cases v
  ·exact ⟨GExpr.fit_mk ⟨by simp[GExpr.l],by simp[GExpr.l]⟩,GExpr.ok_mk (by omega) (by omega) (by simp[ByteArray.size]) (by simp) (by simp)⟩
  ·exact ⟨GExpr.fit_mk ⟨by simp[GExpr.l],by simp[GExpr.l]⟩,GExpr.ok_mk (by omega) (by omega) (by simp[ByteArray.size]) (by simp) (by simp)⟩
 | d+1,s=>by
  have hw:=wordS_in b s
  rw[exprS]
  split
  ·cases v
   ·exact ⟨GExpr.fit_mk ⟨by simp[GExpr.l],by simp[GExpr.l]⟩,GExpr.ok_mk (by omega) (by omega) (by simp[ByteArray.size]) (by simp) (by simp)⟩
   ·exact ⟨GExpr.fit_mk ⟨by simp[GExpr.l],by simp[GExpr.l]⟩,GExpr.ok_mk (by omega) (by omega) (by simp[ByteArray.size]) (by simp) (by simp)⟩
  ·have hh:=headS_in b (wordS b s).1 (wordS b s).2
   have hl:=partsS_len (f:=exprS v b d) (headS b (wordS b s).1 (wordS b s).2).2.2.1 (headS b (wordS b s).1 (wordS b s).2).2.2.2
   have ha:=partsS_all (f:=exprS v b d) (Q:=fun x=>GExpr.fit x∧GExpr.ok x) (exprS_good v b d) (headS b (wordS b s).1 (wordS b s).2).2.2.1 (headS b (wordS b s).1 (wordS b s).2).2.2.2
   exact ⟨GExpr.fit_mk ⟨by simp only[GExpr.l];omega,fun x hx=>(ha x hx).1⟩,GExpr.ok_mk (by omega) (by omega) (by omega) (by omega) fun x hx=>(ha x hx).2⟩
def getE (b:List UInt8) (p:Int):Option (GExpr×Int):=
 if (exprS false b 6 (p,false)).2.2=true then none else if okE (exprS false b 6 (p,false)).1 1 false=true then some ((exprS false b 6 (p,false)).1,(exprS false b 6 (p,false)).2.1) else none
def zeroX:GExpr:= .mk 0 0 ⟨#[]⟩ []
def gE (x:Option (GExpr×Int)):GExpr×Int×Bool:=match x with | some (e,q)=>(e,q,true) | none=>(zeroX,0,false)
theorem simZ (q:Int):Sim (.tup [.agg [.int .i64 0,.int .i64 0,.str ⟨#[]⟩,.nils],.int .i64 q,.bool false]) (.tup [.agg (GExpr.ow zeroX),.int .i64 q,.bool false]):=
 .tup (.cons (simN 0 0 _) (.refl _))
theorem impl_GetExpr (b:List UInt8) (p:Int) (hb:b.length≤1099511627776) (hp: -9223372036854775808≤p∧p≤9223372036854775807):Con 49 [.ro 1 (GByte.ros b),.int .i64 p] (.tup [.agg (GExpr.ow (gE (getE b p)).1),.int .i64 (gE (getE b p)).2.1,.bool (gE (getE b p)).2.2]) [none,none]:=by
 refine con Tryz.func49 ?_
 have hg:=exprS_good false b 6 (p,false)
 have c:=reader_expr b hb 6 (p,false) (by decide) hp
 rw[getE]
 generalize exprS false b 6 (p,false)=E at hg c
 repeat' (first | refine And.intro (fun (h:_=true)=>?_) (fun (h:_=false)=>?_) | refine And.intro (fun (h:_=false)=>?_) (fun (h:_=true)=>?_) | refine And.intro (show regOk _ _=true from by kernel_rfl) ?_ | refine ⟨[.mut,.ro],.agg (GExpr.ow E.1),[some (.pb (rdRow b E.2)),none],.nba rfl c,trivial,?_⟩ | refine ⟨[.ro],.bool (okE E.1 1 false),[none],(by simp only[GExpr.roo];exact impl_ExprOk E.1 hg.1 hg.2),⟨trivial,trivial⟩,?_⟩ | fail)
 ·rename_i h1;rw[if_neg (by rw[h1];simp),if_neg (by simpa using h)];exact ⟨simZ 0,trivial⟩
 ·rename_i h1;rw[if_neg (by rw[h1];simp),if_pos (by simpa using h)];exact ⟨.nb rfl,trivial⟩
 ·rw[if_pos h];exact ⟨simZ 0,trivial⟩
theorem spec_GetExpr (b:List UInt8) (p:Int) (hb:b.length≤1099511627776) (hp: -9223372036854775808≤p∧p≤9223372036854775807):Con 50 [.ro 1 (GByte.ros b),.int .i64 p] (.tup [.agg (GExpr.ow (gE (getE b p)).1),.int .i64 (gE (getE b p)).2.1,.bool (gE (getE b p)).2.2]) [none,none]:=by
 refine con Tryz.func50 ?_
 have hg:=exprS_good true b 6 (p,false)
 have c:=spec_l17Expr b hb 6 (p,false) (by decide) hp
 have hsame:=exprS_same b 6 (p,false)
 rw[getE]
 generalize exprS false b 6 (p,false)=E0 at hsame
 generalize exprS true b 6 (p,false)=E at hg c hsame
 obtain ⟨s1,s2⟩:=hsame
 rw[←s1]
 rw[←s1] at s2
 repeat' (first | refine And.intro (fun (h:_=true)=>?_) (fun (h:_=false)=>?_) | refine And.intro (fun (h:_=false)=>?_) (fun (h:_=true)=>?_) | refine And.intro (show regOk _ _=true from by kernel_rfl) ?_ | refine ⟨[.mut,.ro],.agg (GExpr.ow E.1),[some (.pb (rdRow b E.2)),none],.nba rfl c,trivial,?_⟩ | refine ⟨[.ro],.bool (okE E.1 1 false),[none],(by simp only[GExpr.roo];exact spec_ExprOk E.1 hg.1 hg.2),⟨trivial,trivial⟩,?_⟩ | fail)
 ·rename_i h1;rw[if_neg (by rw[h1];simp),←s2 h1,if_neg (by simpa using h)];exact ⟨simZ 0,trivial⟩
 ·rename_i h1;rw[if_neg (by rw[h1];simp),←s2 h1,if_pos (by simpa using h)];exact ⟨.nb rfl,trivial⟩
 ·rw[if_pos h];exact ⟨simZ 0,trivial⟩
end Go.Proofs.VI
