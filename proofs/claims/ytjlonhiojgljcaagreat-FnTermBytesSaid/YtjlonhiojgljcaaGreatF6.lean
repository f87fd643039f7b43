/- Contracts of functions, and what they rest on: l16obj. -/
import Derived.Test.YtjlonhiojgljcaaGreatF5
set_option linter.unusedVariables false
set_option linter.unusedSimpArgs false
set_option maxRecDepth 10000
set_option maxHeartbeats 4000000
namespace Go.Proofs.VI
open Go
def sectP (l:List GSect) (n:Int) (i:Nat):Prop:=∀ h:i < l.length,isNm l[i].name=true∧(l[i].words.length:Int)≤256∧(∀ k (hk:k < i),l[k].name≠l[i].name)∧∀ k (hk:k < l[i].words.length),placedE l[i].words[k] n=true
def globP (l:List GGlob) (n:Int) (i:Nat):Prop:=∀ h:i < l.length,isNm l[i].name=true∧placedE l[i].e n=true∧(0 < i→Op.bytesLess (l[i - 1]'(by omega)).name.toList l[i].name.toList=true)
def objP (o:GObj):Prop:=((o.sects.length:Int)≤8∧(o.globs.length:Int)≤20)∧(∀ i,i < o.sects.length→sectP o.sects o.sects.length i)∧∀ i,i < o.globs.length→globP o.globs o.sects.length i
noncomputable def objE (o:GObj):Bool:=dec (objP o)
theorem glob_row {l:List GGlob} {i:Nat} (h:i < l.length):(GGlob.ros l)[i]?=some (GGlob.ro l[i]):=map_get _ _ h
theorem sect_at {l:List GSect} {i:Nat} (h:i < l.length):(GSect.ros l)[i]?=some (GSect.ro l[i]):=sect_row (List.getElem?_eq_getElem h)
theorem objE_sect {o:GObj} {i:Nat} (h:i < o.sects.length) (hn:¬ sectP o.sects o.sects.length i):objE o=false:=dec_false fun x=>hn (x.2.1 i h)
theorem objE_glob {o:GObj} {i:Nat} (h:i < o.globs.length) (hn:¬ globP o.globs o.sects.length i):objE o=false:=dec_false fun x=>hn (x.2.2 i h)
theorem spec_ObjOk (o:GObj) (fo:GObj.fit o) (oo:GObj.ok o):Con 64 [.agg (GObj.ro o)] (.bool (objE o)) [none]:=by
 have uo:=GObj.fit_un fo
 have vo:=GObj.ok_un oo
 have ls:(GSect.ros o.sects).length=o.sects.length:=by simp
 have lg:(GGlob.ros o.globs).length=o.globs.length:=by simp
 refine con Tryz.func64 ?_
 refine ⟨{i:Nat // i≤o.sects.length∧∀ j,j < i→sectP o.sects o.sects.length j},fun i=>⟨[(1,.ptr 0 0 0),(3,.int .i64 o.sects.length),(4,.int .i64 i.1)],[(0,.box (GObj.ro o) [])]⟩,fun i=>o.sects.length - i.1,⟨0,Nat.zero_le _,fun j h2=>absurd h2 (Nat.not_lt_zero _)⟩,?_,?_⟩
 ·exact ⟨rfl,rfl,congrArg (AV.int .i64) (by rw[ls]),rfl,.refl _,trivial⟩
 ·rintro ⟨i,hi,ha⟩
  dsimp only
  refine ⟨fun h=>?_,fun h=>?_⟩<;>simp only[decide_eq_true_eq,decide_eq_false_iff_not] at h
  ·have hi:i < o.sects.length:=by omega
   have us:=GSect.fit_un (uo.1.2 _ (List.getElem_mem hi))
   have vs:=GSect.ok_un (vo.1.2 _ (List.getElem_mem hi))
   have lw:=ros_len o.sects[i].words
   refine ⟨Int.natCast_nonneg _,_,sect_at hi,?_⟩
   refine ⟨{k:Nat // k≤i∧∀ j (h:j < k) (h2:j < o.sects.length),o.sects[j].name≠o.sects[i].name},fun k=>⟨[(1,.ptr 0 0 0),(3,.int .i64 o.sects.length),(4,.int .i64 i),(5,.ptr 1 0 0),(6,.int .i64 k.1)],[(0,.box (GObj.ro o) []),(1,.box (GSect.ro o.sects[i]) [])]⟩,fun k=>i - k.1,⟨0,Nat.zero_le _,fun j h2=>absurd h2 (Nat.not_lt_zero _)⟩,?_,?_⟩
   ·exact ⟨rfl,rfl,rfl,rfl,rfl,rfl,rfl,.refl _,.refl _,trivial⟩
   ·rintro ⟨k,hk,hb⟩
    dsimp only
    refine ⟨fun h=>?_,fun h=>?_⟩<;>simp only[decide_eq_true_eq,decide_eq_false_iff_not] at h
    ·have hk:k < i:=by omega
     have hr:=sect_at (Nat.lt_trans hk hi)
     repeat' (first | refine And.intro (fun (h:_=true)=>?_) (fun (h:_=false)=>?_) | refine And.intro (fun (h:_=false)=>?_) (fun (h:_=true)=>?_) | refine And.intro (show regOk _ _=true from by kernel_rfl) ?_ | refine ⟨Int.natCast_nonneg _,_,hr,?_⟩ | fail)
     all_goals simp only[decide_eq_true_eq,decide_eq_false_iff_not] at h
     ·exact ⟨.of_eq (congrArg AV.bool (objE_sect hi fun x=>(x hi).2.2.1 k hk h).symm),trivial⟩
     ·exact ⟨⟨k+1,hk,fun j hj=>le_succ (q:=fun j=>∀ h2:j < o.sects.length,o.sects[j].name≠o.sects[i].name) hb (fun _=>h) j hj⟩,Nat.sub_succ_lt_self _ _ hk,(by (repeat' (first | exact trivial | (refine And.intro (congrArg (AV.int .i64) (w64 ?_ ?_)) ?_;omega;omega) | refine And.intro rfl ?_ | refine And.intro (SimRows.refl _) ?_ | (refine And.intro (SimRows.of_eq ?_) ?_;(first | assumption | rfl)) | (refine And.intro (congrArg (AV.int .i64) ?_) ?_;(first | assumption | omega)) | fail));done)⟩
    ·have hb:∀ j (h:j < i),o.sects[j].name≠o.sects[i].name:=fun j h=>hb j (by omega) (by omega)
     have bad:¬ (isNm o.sects[i].name=true∧(o.sects[i].words.length:Int)≤256)→false=objE o:=fun g=>(objE_sect hi fun x=>g ⟨(x hi).1,(x hi).2.1⟩).symm
     have c:=spec_l9Name o.sects[i].name vs.1
     repeat' (first | refine And.intro (fun (h:_=true)=>?_) (fun (h:_=false)=>?_) | refine And.intro (fun (h:_=false)=>?_) (fun (h:_=true)=>?_) | refine And.intro (show regOk _ _=true from by kernel_rfl) ?_ | refine And.intro (Sim.of_eq (congrArg AV.bool ?_)) trivial | refine ⟨[.ro],.bool _,[none],c,trivial,?_⟩ | refine ⟨{k:Nat // k≤o.sects[i].words.length∧(isNm o.sects[i].name=true∧(o.sects[i].words.length:Int)≤256)∧∀ j,j < k→∀ h:j < o.sects[i].words.length,placedE o.sects[i].words[j] o.sects.length=true},fun k=>⟨[(1,.ptr 0 0 0),(3,.int .i64 o.sects.length),(4,.int .i64 i),(5,.ptr 1 0 0),(7,.int .i64 k.1)],[(0,.box (GObj.ro o) []),(1,.box (GSect.ro o.sects[i]) [])]⟩,fun k=>o.sects[i].words.length - k.1,⟨0,Nat.zero_le _,?_,fun j h2=>absurd h2 (Nat.not_lt_zero _)⟩,?_,?_⟩ | fail)
     ·exact bad fun g=>absurd (of_decide_eq_true h) (by rw[lw];omega)
     ·exact ⟨by simpa using ‹(!isNm _)=false›,by have:=of_decide_eq_false h;rw[lw] at this;omega⟩
     ·exact ⟨rfl,rfl,rfl,rfl,rfl,rfl,rfl,.refl _,.refl _,trivial⟩
     ·rintro ⟨k,hk,hg,hp⟩
      dsimp only
      refine ⟨fun h=>?_,fun h=>?_⟩<;>simp only[lw,decide_eq_true_eq,decide_eq_false_iff_not] at h
      ·have hk:k < o.sects[i].words.length:=by omega
       have c2:=spec_l16Right o.sects[i].words[k] o.sects.length (us.2 _ (List.getElem_mem hk)) (vs.2.2.2 _ (List.getElem_mem hk))
       refine ⟨Int.natCast_nonneg _,_,ros_get _ _ hk,[.ro,.ro],.bool _,[none,none],c2,trivial,fun h=>⟨.of_eq (congrArg AV.bool ?_),trivial⟩,fun h=>?_⟩<;>simp only[Bool.not_eq_true',Bool.not_eq_false'] at h
       ·exact (objE_sect hi fun x=>by have:=(x hi).2.2.2 k hk;rw[h] at this;cases this).symm
       ·exact ⟨⟨k+1,hk,hg,le_succ (q:=fun j=>∀ h:j < o.sects[i].words.length,placedE o.sects[i].words[j] o.sects.length=true) hp fun _=>h⟩,Nat.sub_succ_lt_self _ _ hk,(by (repeat' (first | exact trivial | (refine And.intro (congrArg (AV.int .i64) (w64 ?_ ?_)) ?_;omega;omega) | refine And.intro rfl ?_ | refine And.intro (SimRows.refl _) ?_ | (refine And.intro (SimRows.of_eq ?_) ?_;(first | assumption | rfl)) | (refine And.intro (congrArg (AV.int .i64) ?_) ?_;(first | assumption | omega)) | fail));done)⟩
      ·exact ⟨⟨i+1,hi,le_succ ha fun _=>⟨hg.1,hg.2,hb,fun k hk=>hp k (by omega) hk⟩⟩,Nat.sub_succ_lt_self _ _ hi,(by (repeat' (first | exact trivial | (refine And.intro (congrArg (AV.int .i64) (w64 ?_ ?_)) ?_;omega;omega) | refine And.intro rfl ?_ | refine And.intro (SimRows.refl _) ?_ | (refine And.intro (SimRows.of_eq ?_) ?_;(first | assumption | rfl)) | (refine And.intro (congrArg (AV.int .i64) ?_) ?_;(first | assumption | omega)) | fail));done)⟩
     ·exact bad fun g=>by rw[g.1] at h;cases h
  ·have ha:∀ j,j < o.sects.length→sectP o.sects o.sects.length j:=fun j hj=>ha j (by omega)
   refine ⟨{i:Nat // i≤o.globs.length∧∀ j,j < i→globP o.globs o.sects.length j},fun i=>⟨[(1,.ptr 0 0 0),(3,.int .i64 o.sects.length),(8,.int .i64 i.1)],[(0,.box (GObj.ro o) [])]⟩,fun i=>o.globs.length - i.1,⟨0,Nat.zero_le _,fun j h2=>absurd h2 (Nat.not_lt_zero _)⟩,?_,?_⟩
   ·exact ⟨rfl,rfl,rfl,rfl,.refl _,trivial⟩
   ·rintro ⟨i,hi,hb⟩
    dsimp only
    refine ⟨fun h=>?_,fun h=>?_⟩<;>simp only[lg,decide_eq_true_eq,decide_eq_false_iff_not] at h
    ·have hi:i < o.globs.length:=by omega
     have ug:=GGlob.fit_un (uo.2.2 _ (List.getElem_mem hi))
     have vg:=GGlob.ok_un (vo.2.2 _ (List.getElem_mem hi))
     have c:=spec_l9Name o.globs[i].name vg.1
     have c2:=spec_l16Right o.globs[i].e o.sects.length ug vg.2
     have hr:=glob_row hi
     have bad:¬ globP o.globs o.sects.length i→false=objE o:=fun g=>(objE_glob hi g).symm
     rcases Nat.eq_zero_or_pos i with h0 | h0
     ·have e0:decide ((0:Int) < i)=false:=decide_eq_false (by omega)
      have good:isNm o.globs[i].name=true∧placedE o.globs[i].e o.sects.length=true→∀ j,j < i+1→globP o.globs o.sects.length j:=fun g=>le_succ hb fun _=>⟨g.1,g.2,fun h=>absurd h (by omega)⟩
      have bad:¬ (isNm o.globs[i].name=true∧placedE o.globs[i].e o.sects.length=true)→false=objE o:=fun g=>bad fun x=>g ⟨(x hi).1,(x hi).2.1⟩
      repeat' (first | (exfalso;rw[e0] at h;cases h;done) | refine And.intro (fun (h:_=true)=>?_) (fun (h:_=false)=>?_) | refine And.intro (fun (h:_=false)=>?_) (fun (h:_=true)=>?_) | refine And.intro (show regOk _ _=true from by kernel_rfl) ?_ | refine And.intro (Sim.of_eq (congrArg AV.bool ?_)) trivial | (refine ⟨⟨i+1,hi,good ?_⟩,Nat.sub_succ_lt_self _ _ hi,?wk⟩;case wk=>(repeat' (first | exact trivial | (refine And.intro (congrArg (AV.int .i64) (w64 ?_ ?_)) ?_;omega;omega) | refine And.intro rfl ?_ | refine And.intro (SimRows.refl _) ?_ | (refine And.intro (SimRows.of_eq ?_) ?_;(first | assumption | rfl)) | (refine And.intro (congrArg (AV.int .i64) ?_) ?_;(first | assumption | omega)) | fail));done) | refine ⟨Int.natCast_nonneg _,_,hr,?_⟩ | refine ⟨[.ro],.bool _,[none],c,trivial,?_⟩ | refine ⟨[.ro,.ro],.bool _,[none,none],c2,trivial,?_⟩ | fail)
      all_goals first
       | (refine bad ?_;clear bad good hb ha c c2 hr ug vg uo vo fo oo;simp_all;done)
       | (clear bad good hb ha c c2 hr ug vg uo vo fo oo;simp_all;done)
     ·have hlt:i - 1 < o.globs.length:=by omega
      have e0:decide ((0:Int) < i)=true:=decide_eq_true (by omega)
      have e1:IntKind.wrap .i64 ((i:Int) - 1)=((i - 1:Nat):Int):=(w64 (by omega) (by omega)).trans (by omega)
      have h1:0≤IntKind.wrap .i64 ((i:Int) - 1):=by rw[e1];omega
      have hr1:(GGlob.ros o.globs)[(IntKind.wrap .i64 ((i:Int) - 1)).toNat]?=some (GGlob.ro (o.globs[i - 1]'hlt)):=by rw[e1];exact glob_row _
      have good:(isNm o.globs[i].name=true∧placedE o.globs[i].e o.sects.length=true)∧Op.bytesLess (o.globs[i - 1]'hlt).name.toList o.globs[i].name.toList=true→∀ j,j < i+1→globP o.globs o.sects.length j:=fun g=>le_succ hb fun _=>⟨g.1.1,g.1.2,fun _=>g.2⟩
      have bad:¬ ((isNm o.globs[i].name=true∧placedE o.globs[i].e o.sects.length=true)∧Op.bytesLess (o.globs[i - 1]'hlt).name.toList o.globs[i].name.toList=true)→false=objE o:=fun g=>bad fun x=>g ⟨⟨(x hi).1,(x hi).2.1⟩,(x hi).2.2 h0⟩
      repeat' (first | (exfalso;rw[e0] at h;cases h;done) | refine And.intro (fun (h:_=true)=>?_) (fun (h:_=false)=>?_) | refine And.intro (fun (h:_=false)=>?_) (fun (h:_=true)=>?_) | refine And.intro (show regOk _ _=true from by kernel_rfl) ?_ | refine And.intro (Sim.of_eq (congrArg AV.bool ?_)) trivial | (refine ⟨⟨i+1,hi,good ?_⟩,Nat.sub_succ_lt_self _ _ hi,?wk⟩;case wk=>(repeat' (first | exact trivial | (refine And.intro (congrArg (AV.int .i64) (w64 ?_ ?_)) ?_;omega;omega) | refine And.intro rfl ?_ | refine And.intro (SimRows.refl _) ?_ | (refine And.intro (SimRows.of_eq ?_) ?_;(first | assumption | rfl)) | (refine And.intro (congrArg (AV.int .i64) ?_) ?_;(first | assumption | omega)) | fail));done) | refine ⟨h1,_,hr1,?_⟩ | refine ⟨Int.natCast_nonneg _,_,hr,?_⟩ | refine ⟨[.ro],.bool _,[none],c,trivial,?_⟩ | refine ⟨[.ro,.ro],.bool _,[none,none],c2,trivial,?_⟩ | fail)
      all_goals first
       | (refine bad ?_;clear bad good hb ha c c2 hr ug vg uo vo fo oo;simp_all;done)
       | (clear bad good hb ha c c2 hr ug vg uo vo fo oo;simp_all;done)
    ·have hb:∀ j,j < o.globs.length→globP o.globs o.sects.length j:=fun j hj=>hb j (by omega)
     have e:objE o=(decide ((o.sects.length:Int)≤8)&&decide ((o.globs.length:Int)≤20)):=by
      by_cases g:(o.sects.length:Int)≤8∧(o.globs.length:Int)≤20
      ·rw[decide_eq_true g.1,decide_eq_true g.2];exact dec_true ⟨g,ha,hb⟩
      ·rw[show objE o=false from dec_false fun x=>g x.1]
       by_cases g1:(o.sects.length:Int)≤8
       ·rw[decide_eq_true g1,decide_eq_false fun g2=>g ⟨g1,g2⟩];rfl
       ·rw[decide_eq_false g1];rfl
     rw[e]
     clear e
     repeat' (first | refine And.intro (fun (h:_=true)=>?_) (fun (h:_=false)=>?_) | refine And.intro (fun (h:_=false)=>?_) (fun (h:_=true)=>?_) | refine And.intro (show regOk _ _=true from by kernel_rfl) ?_ | refine And.intro (Sim.of_eq (congrArg AV.bool ?_)) trivial | fail)
     all_goals simp_all only[lg,Bool.true_and,Bool.false_and]
end Go.Proofs.VI
