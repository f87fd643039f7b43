/- Contracts of functions, and what they rest on: lruns l12d l12dr l15d. -/
import Derived.Test.YtjlonhiojgljcaaGreatS12
set_option linter.unusedVariables false
set_option linter.unusedSimpArgs false
set_option maxRecDepth 10000
set_option maxHeartbeats 4000000
namespace Go.Proofs.VI
open Go
def Runs {σ:Type} (step:σ→σ→Prop):Nat→σ→σ→Prop
 | 0,s,t=>s=t
 | k+1,s,t=>∃ s',step s s'∧Runs step k s' t
theorem runs_ex {σ:Type} {step:σ→σ→Prop} {Q:Nat→σ→Prop} (h:∀ k s,Q (k+1) s→∃ s',step s s'∧Q k s'):∀ k s,Q k s→∃ t,Runs step k s t∧Q 0 t
 | 0,s,q=>⟨s,rfl,q⟩
 | k+1,s,q=>by
  obtain ⟨s',h1,q'⟩:=h k s q
  obtain ⟨t,h2,q2⟩:=runs_ex h k s' q'
  exact ⟨t,⟨s',h1,h2⟩,q2⟩
theorem arg_fo {y r:Int} {e:GExpr} (hy:0≤y∧y < 12) (hr:0≤r∧r < 8) (he:FO e):GArg.fit ⟨y,r,e⟩∧GArg.ok ⟨y,r,e⟩:=⟨he.1,⟨by show _≤y;omega,by show y≤_;omega⟩,⟨by show _≤r;omega,by show r≤_;omega⟩,he.2⟩
theorem zExpr_fo:FO zExpr:=tg_zero
theorem arg_sim (a:GArg) {A:AV} (h:Sim A (.ro 4 (GExpr.ros a.e.l))):Sim (.agg [.int .i64 a.form,.int .i64 a.reg,.int .i64 a.e.k,.int .i64 a.e.n,.str a.e.s,A]) (.agg (GArg.ro a)):=
 .agg (.cons (.refl _) (.cons (.refl _) (.cons (.refl _) (.cons (.refl _) (.cons (.refl _) (.cons h (.refl _)))))))
theorem line_sim (x:GLine) {A B C:AV} (hA:Sim A (.ro 4 (GExpr.ros x.src.e.l))) (hB:Sim B (.ro 4 (GExpr.ros x.dst.e.l))) (hC:Sim C (.ro 4 (GExpr.ros x.l))):Sim (.agg [.int .i64 x.k,.str x.s,.int .i64 x.op,.int .i64 x.src.form,.int .i64 x.src.reg,.int .i64 x.src.e.k,.int .i64 x.src.e.n,.str x.src.e.s,A,.int .i64 x.dst.form,.int .i64 x.dst.reg,.int .i64 x.dst.e.k,.int .i64 x.dst.e.n,.str x.dst.e.s,B,.int .i64 x.n,C]) (.agg (GLine.ro x)):=
 .agg (.cons (.refl _) (.cons (.refl _) (.cons (.refl _) (.cons (.refl _) (.cons (.refl _) (.cons (.refl _) (.cons (.refl _) (.cons (.refl _) (.cons hA (.cons (.refl _) (.cons (.refl _) (.cons (.refl _) (.cons (.refl _) (.cons (.refl _) (.cons hB (.cons (.refl _) (.cons hC (.refl _))))))))))))))))))
theorem one_ro (e:GExpr):Sim (.ow 4 [GExpr.ro e]) (.ro 4 (GExpr.ros [e])):=by
 have g:=Sim.frz (.ow 4 [GExpr.ro e])
 have e2:toRoRows [GExpr.ro e]=GExpr.ros [e]:=by
  rw[show [GExpr.ro e]=GExpr.ros [e] from by rw[GExpr.ros_eq];rfl,GExpr.ror]
 simp only[toRo,e2] at g
 exact g
def LG (x:GLine):Prop:=GLine.fit x∧GLine.ok x
theorem line_fo {k op n:Int} {s:ByteArray} {a b:GArg} {l:List GExpr} (hk: -100≤k∧k≤100) (hop: -100≤op∧op≤100) (hn: -100≤n∧n≤100) (hs:s.size≤100) (ha:GArg.fit a∧GArg.ok a) (hb:GArg.fit b∧GArg.ok b) (hl:l.length≤100) (fl:∀ e∈l,FO e):LG ⟨k,s,op,a,b,n,l⟩:=
 ⟨⟨ha.1,hb.1,by show l.length≤_;omega,fun e he=>(fl e he).1⟩,⟨⟨by show _≤k;omega,by show k≤_;omega⟩,by show s.size≤_;omega,⟨by show _≤op;omega,by show op≤_;omega⟩,ha.2,hb.2,⟨by show _≤n;omega,by show n≤_;omega⟩,by show l.length≤_;omega,fun e he=>(fl e he).2⟩⟩
theorem zArg_fo:GArg.fit zArg∧GArg.ok zArg:=arg_fo ⟨by decide,by decide⟩ ⟨by decide,by decide⟩ zExpr_fo
theorem spec_l12Draw2 (b:List UInt8) (hb:b.length≤1099511627776) (i:Nat) (h:Int) (hi:i≤b.length):∃ (a:GArg) (j:Nat) (h':Int),(GArg.fit a∧GArg.ok a)∧j≤b.length∧Con 309 [.pb (cRow b i h)] (.agg (GArg.ro a)) [some (.pb (cRow b j h'))]:=by
 obtain ⟨y,j1,h1,hy,hj1,c1⟩:=spec_l1Below b hb i h hi 12 (by decide)
 by_cases y7:y≤7
 ·obtain ⟨r,j2,h2,hr,hj2,c2⟩:=spec_l1Below b hb j1 h1 hj1 8 (by decide)
  by_cases y6:6≤y
  ·obtain ⟨e,j3,h3,he,hj3,c3⟩:=spec_l10Draw b hb true 1 (by decide) j2 h2 hj2
   refine ⟨⟨y,r,e⟩,j3,h3,arg_fo hy hr (fo_okx he),hj3,?_⟩
   refine con Tryz.func309 ?_
   repeat' (first | (exfalso;first | (have:=of_decide_eq_true h;omega) | (have:=of_decide_eq_false h;omega)) | refine And.intro (fun (h:_=true)=>?_) (fun (h:_=false)=>?_) | refine And.intro (fun (h:_=false)=>?_) (fun (h:_=true)=>?_) | refine And.intro (show regOk _ _=true from by kernel_rfl) ?_ | refine ⟨[.mut,.ro],.int .i64 y,[_,none],c1,trivial,?_⟩ | refine ⟨[.mut,.ro],.int .i64 r,[_,none],c2,trivial,?_⟩ | refine ⟨[.mut,.ro,.ro],.agg (GExpr.ro e),[_,none,none],.nba rfl c3,trivial,?_⟩ | refine And.intro (arg_sim ⟨y,r,e⟩ (.refl _)) (And.intro (Sim.refl _) trivial) | fail)
  ·refine ⟨⟨y,r,zExpr⟩,j2,h2,arg_fo hy hr zExpr_fo,hj2,?_⟩
   refine con Tryz.func309 ?_
   repeat' (first | (exfalso;first | (have:=of_decide_eq_true h;omega) | (have:=of_decide_eq_false h;omega)) | refine And.intro (fun (h:_=true)=>?_) (fun (h:_=false)=>?_) | refine And.intro (fun (h:_=false)=>?_) (fun (h:_=true)=>?_) | refine And.intro (show regOk _ _=true from by kernel_rfl) ?_ | refine ⟨[.mut,.ro],.int .i64 y,[_,none],c1,trivial,?_⟩ | refine ⟨[.mut,.ro],.int .i64 r,[_,none],c2,trivial,?_⟩ | refine And.intro (arg_sim ⟨y,r,zExpr⟩ (.nilr 4)) (And.intro (Sim.refl _) trivial) | fail)
 ·obtain ⟨e,j3,h3,he,hj3,c3⟩:=spec_l10Draw b hb true 1 (by decide) j1 h1 hj1
  refine ⟨⟨y,0,e⟩,j3,h3,arg_fo hy (by omega) (fo_okx he),hj3,?_⟩
  refine con Tryz.func309 ?_
  repeat' (first | (exfalso;first | (have:=of_decide_eq_true h;omega) | (have:=of_decide_eq_false h;omega)) | refine And.intro (fun (h:_=true)=>?_) (fun (h:_=false)=>?_) | refine And.intro (fun (h:_=false)=>?_) (fun (h:_=true)=>?_) | refine And.intro (show regOk _ _=true from by kernel_rfl) ?_ | refine ⟨[.mut,.ro],.int .i64 y,[_,none],c1,trivial,?_⟩ | refine ⟨[.mut,.ro,.ro],.agg (GExpr.ro e),[_,none,none],.nba rfl c3,trivial,?_⟩ | refine And.intro (arg_sim ⟨y,0,e⟩ (.refl _)) (And.intro (Sim.refl _) trivial) | fail)
theorem spec_l12Ins2 (b:List UInt8) (hb:b.length≤1099511627776) (i:Nat) (h:Int) (hi:i≤b.length):∃ (x:GLine) (j:Nat) (h':Int),LG x∧j≤b.length∧Con 285 [.pb (cRow b i h)] (.agg (GLine.ro x)) [some (.pb (cRow b j h'))]:=by
 obtain ⟨y,j1,h1,hy,hj1,c1⟩:=spec_l1Below b hb i h hi 23 (by decide)
 obtain ⟨w,hw⟩:∃ w,IntKind.wrap .i64 (1+y)=w:=⟨_,rfl⟩
 have hw2:w=1+y:=by rw[←hw];exact w64 (by omega) (by omega)
 have k3:(-100:Int)≤3∧(3:Int)≤100:=by decide
 have k0:(-100:Int)≤0∧(0:Int)≤100:=by decide
 have s0:((⟨#[]⟩:ByteArray)).size≤100:=by decide
 have l0:([]:List GExpr).length≤100:=by decide
 have f0:∀ e∈([]:List GExpr),FO e:=fun e he=>absurd he List.not_mem_nil
 by_cases w6:w≤6
 ·obtain ⟨a,j2,h2,ha,hj2,c2⟩:=spec_l12Draw2 b hb j1 h1 hj1
  obtain ⟨d,j3,h3,hd,hj3,c3⟩:=spec_l12Draw2 b hb j2 h2 hj2
  refine ⟨⟨3,⟨#[]⟩,w,a,d,0,[]⟩,j3,h3,line_fo k3 (by omega) k0 s0 ha hd l0 f0,hj3,?_⟩
  refine con Tryz.func285 ?_
  rw[←hw] at w6 hw2⊢
  repeat' (first | (exfalso;first | (have:=of_decide_eq_true h;omega) | (have:=of_decide_eq_false h;omega)) | refine And.intro (fun (h:_=true)=>?_) (fun (h:_=false)=>?_) | refine And.intro (fun (h:_=false)=>?_) (fun (h:_=true)=>?_) | refine And.intro (show regOk _ _=true from by kernel_rfl) ?_ | refine ⟨[.mut,.ro],.int .i64 y,[_,none],c1,trivial,?_⟩ | refine ⟨[.mut],.agg (GArg.ro a),[_],c2,trivial,?_⟩ | refine ⟨[.mut],.agg (GArg.ro d),[_],c3,trivial,?_⟩ | refine And.intro (line_sim ⟨3,⟨#[]⟩,_,a,d,0,[]⟩ (.refl _) (.refl _) (.nilr 4)) (And.intro (Sim.refl _) trivial) | fail)
 by_cases w14:w≤14
 ·obtain ⟨d,j3,h3,hd,hj3,c3⟩:=spec_l12Draw2 b hb j1 h1 hj1
  refine ⟨⟨3,⟨#[]⟩,w,zArg,d,0,[]⟩,j3,h3,line_fo k3 (by omega) k0 s0 zArg_fo hd l0 f0,hj3,?_⟩
  refine con Tryz.func285 ?_
  rw[←hw] at w6 w14 hw2⊢
  repeat' (first | (exfalso;first | (have:=of_decide_eq_true h;omega) | (have:=of_decide_eq_false h;omega)) | refine And.intro (fun (h:_=true)=>?_) (fun (h:_=false)=>?_) | refine And.intro (fun (h:_=false)=>?_) (fun (h:_=true)=>?_) | refine And.intro (show regOk _ _=true from by kernel_rfl) ?_ | refine ⟨[.mut,.ro],.int .i64 y,[_,none],c1,trivial,?_⟩ | refine ⟨[.mut],.agg (GArg.ro d),[_],c3,trivial,?_⟩ | refine And.intro (line_sim ⟨3,⟨#[]⟩,_,zArg,d,0,[]⟩ (.nilr 4) (.refl _) (.nilr 4)) (And.intro (Sim.refl _) trivial) | fail)
 by_cases w15:w=15
 ·obtain ⟨d,j3,h3,hd,hj3,c3⟩:=spec_l12Draw2 b hb j1 h1 hj1
  obtain ⟨n,j4,h4,hn,hj4,c4⟩:=spec_l1Below b hb j3 h3 hj3 8 (by decide)
  refine ⟨⟨3,⟨#[]⟩,w,zArg,d,n,[]⟩,j4,h4,line_fo k3 (by omega) (by omega) s0 zArg_fo hd l0 f0,hj4,?_⟩
  refine con Tryz.func285 ?_
  rw[←hw] at w6 w14 w15 hw2⊢
  repeat' (first | (exfalso;first | (have:=of_decide_eq_true h;omega) | (have:=of_decide_eq_false h;omega)) | refine And.intro (fun (h:_=true)=>?_) (fun (h:_=false)=>?_) | refine And.intro (fun (h:_=false)=>?_) (fun (h:_=true)=>?_) | refine And.intro (show regOk _ _=true from by kernel_rfl) ?_ | refine ⟨[.mut,.ro],.int .i64 y,[_,none],c1,trivial,?_⟩ | refine ⟨[.mut],.agg (GArg.ro d),[_],c3,trivial,?_⟩ | refine ⟨[.mut,.ro],.int .i64 n,[_,none],c4,trivial,?_⟩ | refine And.intro (line_sim ⟨3,⟨#[]⟩,_,zArg,d,n,[]⟩ (.nilr 4) (.refl _) (.nilr 4)) (And.intro (Sim.refl _) trivial) | fail)
 by_cases w16:w=16
 ·obtain ⟨n,j4,h4,hn,hj4,c4⟩:=spec_l1Below b hb j1 h1 hj1 8 (by decide)
  refine ⟨⟨3,⟨#[]⟩,w,zArg,zArg,n,[]⟩,j4,h4,line_fo k3 (by omega) (by omega) s0 zArg_fo zArg_fo l0 f0,hj4,?_⟩
  refine con Tryz.func285 ?_
  rw[←hw] at w6 w14 w15 w16 hw2⊢
  repeat' (first | (exfalso;first | (have:=of_decide_eq_true h;omega) | (have:=of_decide_eq_false h;omega)) | refine And.intro (fun (h:_=true)=>?_) (fun (h:_=false)=>?_) | refine And.intro (fun (h:_=false)=>?_) (fun (h:_=true)=>?_) | refine And.intro (show regOk _ _=true from by kernel_rfl) ?_ | refine ⟨[.mut,.ro],.int .i64 y,[_,none],c1,trivial,?_⟩ | refine ⟨[.mut,.ro],.int .i64 n,[_,none],c4,trivial,?_⟩ | refine And.intro (line_sim ⟨3,⟨#[]⟩,_,zArg,zArg,n,[]⟩ (.nilr 4) (.nilr 4) (.nilr 4)) (And.intro (Sim.refl _) trivial) | fail)
 by_cases w22:w=22
 ·refine ⟨⟨3,⟨#[]⟩,w,zArg,zArg,0,[]⟩,j1,h1,line_fo k3 (by omega) k0 s0 zArg_fo zArg_fo l0 f0,hj1,?_⟩
  refine con Tryz.func285 ?_
  rw[←hw] at w6 w14 w15 w16 w22 hw2⊢
  repeat' (first | (exfalso;first | (have:=of_decide_eq_true h;omega) | (have:=of_decide_eq_false h;omega)) | refine And.intro (fun (h:_=true)=>?_) (fun (h:_=false)=>?_) | refine And.intro (fun (h:_=false)=>?_) (fun (h:_=true)=>?_) | refine And.intro (show regOk _ _=true from by kernel_rfl) ?_ | refine ⟨[.mut,.ro],.int .i64 y,[_,none],c1,trivial,?_⟩ | refine And.intro (line_sim ⟨3,⟨#[]⟩,_,zArg,zArg,0,[]⟩ (.nilr 4) (.nilr 4) (.nilr 4)) (And.intro (Sim.refl _) trivial) | fail)
 ·obtain ⟨e,j4,h4,he,hj4,c4⟩:=spec_l10Draw b hb true 1 (by decide) j1 h1 hj1
  refine ⟨⟨3,⟨#[]⟩,w,zArg,zArg,0,[e]⟩,j4,h4,line_fo k3 (by omega) k0 s0 zArg_fo zArg_fo (by show 1≤100;decide) (fun x hx=>by rw[List.mem_singleton.1 hx];exact fo_okx he),hj4,?_⟩
  refine con Tryz.func285 ?_
  rw[←hw] at w6 w14 w15 w16 w22 hw2⊢
  repeat' (first | (exfalso;first | (have:=of_decide_eq_true h;omega) | (have:=of_decide_eq_false h;omega)) | refine And.intro (fun (h:_=true)=>?_) (fun (h:_=false)=>?_) | refine And.intro (fun (h:_=false)=>?_) (fun (h:_=true)=>?_) | refine And.intro (show regOk _ _=true from by kernel_rfl) ?_ | refine ⟨[.mut,.ro],.int .i64 y,[_,none],c1,trivial,?_⟩ | refine ⟨[.mut,.ro,.ro],.agg (GExpr.ro e),[_,none,none],.nba rfl c4,trivial,?_⟩ | refine And.intro (line_sim ⟨3,⟨#[]⟩,_,zArg,zArg,0,[e]⟩ (.nilr 4) (.nilr 4) (one_ro e)) (And.intro (Sim.refl _) trivial) | fail)
theorem ros_ro (l:List GExpr):Sim (.ow 4 (GExpr.ros l)) (.ro 4 (GExpr.ros l)):= .trans (.frz _) (.of_eq (congrArg (AV.ro 4) (GExpr.ror l)))
def DStep (b:List UInt8) (s s':List GExpr×Nat×Int):Prop:=∃ e,FO e∧s'.1=s.1++[e]∧s'.2.1≤b.length∧Con 113 [.pb (cRow b s.2.1 s.2.2),.int .i64 (2:Nat),.bool true] (.agg (GExpr.ro e)) [some (.pb (cRow b s'.2.1 s'.2.2)),none,none]
theorem DStep.ex (b:List UInt8) (hb:b.length≤1099511627776) (k:Nat) (j:Nat) (h:Int) (hj:j≤b.length):∃ t:List GExpr×Nat×Int,Runs (DStep b) k ([],j,h) t∧t.1.length≤k∧(∀ e∈t.1,FO e)∧t.2.1≤b.length:=by
 obtain ⟨t,h1,h2⟩:=runs_ex (step:=DStep b) (Q:=fun n s=>s.1.length+n≤k∧(∀ e∈s.1,FO e)∧s.2.1≤b.length) (fun n s q=>by
  obtain ⟨e,j',h',he,hj',c⟩:=spec_l10Draw b hb true 2 (by decide) s.2.1 s.2.2 q.2.2
  refine ⟨(s.1++[e],j',h'),⟨e,fo_okx he,rfl,hj',c⟩,by have:=q.1;simp only[List.length_append,List.length_singleton];omega,fun x hx=>?_,hj'⟩
  rcases List.mem_append.1 hx with g | g
  ·exact q.2.1 x g
  ·rw[List.mem_singleton.1 g];exact fo_okx he) k ([],j,h) ⟨by simp,fun e he=>absurd he List.not_mem_nil,hj⟩
 exact ⟨t,h1,by have:=h2.1;omega,h2.2.1,h2.2.2⟩
theorem str_small {y:ByteArray} {l:List ByteArray} (h:y∈l) (hl:∀ x∈l,x.size≤100):y.size≤100:=hl y h
theorem spec_l12Draw (b:List UInt8) (hb:b.length≤1099511627776) (i:Nat) (h:Int) (hi:i≤b.length):∃ (x:GLine) (j:Nat) (h':Int),LG x∧j≤b.length∧Con 250 [.pb (cRow b i h)] (.agg (GLine.ro x)) [some (.pb (cRow b j h'))]:=by
 obtain ⟨y,j1,h1,hy,hj1,c1⟩:=spec_l1Below b hb i h hi 12 (by decide)
 have k0:(-100:Int)≤0∧(0:Int)≤100:=by decide
 have s0:((⟨#[]⟩:ByteArray)).size≤100:=by decide
 have l0:([]:List GExpr).length≤100:=by decide
 have f0:∀ e∈([]:List GExpr),FO e:=fun e he=>absurd he List.not_mem_nil
 by_cases y0:y=0
 ·subst y0
  obtain ⟨s,j2,h2,hs,hj2,c2⟩:=spec_l1Str b hb j1 h1 hj1 [⟨#[97]⟩,⟨#[98]⟩,⟨#[99]⟩,⟨#[100]⟩] (by simp) (by simp)
  have hs:=str_small hs (by decide)
  refine ⟨⟨1,s,0,zArg,zArg,0,[]⟩,j2,h2,line_fo (by decide) k0 k0 hs zArg_fo zArg_fo l0 f0,hj2,?_⟩
  refine con Tryz.func250 ?_
  repeat' (first | (exfalso;simp at h;done) | refine And.intro (fun (h:_=true)=>?_) (fun (h:_=false)=>?_) | refine And.intro (fun (h:_=false)=>?_) (fun (h:_=true)=>?_) | refine And.intro (show regOk _ _=true from by kernel_rfl) ?_ | refine ⟨[.mut,.ro],.int .i64 0,[_,none],c1,trivial,?_⟩ | refine ⟨[.mut,.frz],.str s,[_,none],c2,trivial,?_⟩ | refine And.intro (line_sim ⟨1,s,0,zArg,zArg,0,[]⟩ (.nilr 4) (.nilr 4) (.nilr 4)) (And.intro (Sim.refl _) trivial) | fail)
 by_cases y1:y=1
 ·subst y1
  obtain ⟨s,j2,h2,hs,hj2,c2⟩:=spec_l1Str b hb j1 h1 hj1 [⟨#[107]⟩,⟨#[109]⟩,⟨#[97]⟩] (by simp) (by simp)
  have hs:=str_small hs (by decide)
  obtain ⟨e,j3,h3,he,hj3,c3⟩:=spec_l10Draw b hb true 2 (by decide) j2 h2 hj2
  refine ⟨⟨2,s,0,zArg,zArg,0,[e]⟩,j3,h3,line_fo (by decide) k0 k0 hs zArg_fo zArg_fo (by show 1≤100;decide) (fun x hx=>by rw[List.mem_singleton.1 hx];exact fo_okx he),hj3,?_⟩
  refine con Tryz.func250 ?_
  repeat' (first | (exfalso;simp at h;done) | refine And.intro (fun (h:_=true)=>?_) (fun (h:_=false)=>?_) | refine And.intro (fun (h:_=false)=>?_) (fun (h:_=true)=>?_) | refine And.intro (show regOk _ _=true from by kernel_rfl) ?_ | refine ⟨[.mut,.ro],.int .i64 1,[_,none],c1,trivial,?_⟩ | refine ⟨[.mut,.frz],.str s,[_,none],c2,trivial,?_⟩ | refine ⟨[.mut,.ro,.ro],.agg (GExpr.ro e),[_,none,none],.nba rfl c3,trivial,?_⟩ | refine And.intro (line_sim ⟨2,s,0,zArg,zArg,0,[e]⟩ (.nilr 4) (.nilr 4) (one_ro e)) (And.intro (Sim.refl _) trivial) | fail)
 by_cases y2:y=2
 ·subst y2
  obtain ⟨m,j2,h2,hm,hj2,c2⟩:=spec_l1Below b hb j1 h1 hj1 3 (by decide)
  obtain ⟨q,rfl⟩:∃ q:Nat,m=q:=⟨m.toNat,by omega⟩
  obtain ⟨⟨l,j3,h3⟩,hrun,hl,fl,hj3⟩:=DStep.ex b hb (q+1) j2 h2 hj2
  dsimp only at hl fl hj3
  refine ⟨⟨4,⟨#[]⟩,0,zArg,zArg,0,l⟩,j3,h3,line_fo (by decide) k0 k0 s0 zArg_fo zArg_fo (by omega) fl,hj3,?_⟩
  have e0:IntKind.wrap .i64 (1+(q:Int))=((q+1:Nat):Int):=(w64 (by omega) (by omega)).trans (by omega)
  refine conI [] (fun i=>bif Nat.beq i 11 then some (3,271) else none) (fun _=>false) Tryz.func250 (fun _ h=>by cases h) ?_
  refine ⟨[.mut,.ro],.int .i64 2,[_,none],c1,trivial,?_⟩
  refine ⟨fun h=>absurd (of_decide_eq_true h) (by decide),fun _=>⟨fun h=>absurd (of_decide_eq_true h) (by decide),fun _=>⟨fun _=>?_,fun h=>absurd rfl (of_decide_eq_false h)⟩⟩⟩
  refine ⟨[.mut,.ro],.int .i64 q,[_,none],c2,trivial,?_⟩
  refine ⟨{p:Nat×(List GExpr×Nat×Int) // p.1≤3∧p.2.1.length+p.1≤3∧p.2.2.1≤b.length∧Runs (DStep b) p.1 p.2 (l,j3,h3)},fun p=>⟨[(0,.ptr 0 0 0),(2,.ptr 1 0 0),(3,.ptr 2 0 0),(4,.int .i64 p.1.1)],[(0,.box (cRow b p.1.2.2.1 p.1.2.2.2) []),(1,.box GLine.zero []),(2,.box [.int .i64 4,.str ⟨#[]⟩,.int .i64 0,.int .i64 0,.int .i64 0,.int .i64 0,.int .i64 0,.str ⟨#[]⟩,.nils,.int .i64 0,.int .i64 0,.int .i64 0,.int .i64 0,.str ⟨#[]⟩,.nils,.int .i64 0,.ow 4 (GExpr.ros p.1.2.1)] [])]⟩,fun p=>p.1.1,⟨(q+1,[],j2,h2),by dsimp only;omega,by dsimp only;simp;omega,hj2,hrun⟩,?_,?_⟩
  ·exact ⟨rfl,rfl,rfl,rfl,rfl,rfl,congrArg (AV.int .i64) e0,.refl _,.refl _,.cons (.cons (.refl _) (.cons (.refl _) (.cons (.refl _) (.cons (.refl _) (.cons (.refl _) (.cons (.refl _) (.cons (.refl _) (.cons (.refl _) (.cons (.refl _) (.cons (.refl _) (.cons (.refl _) (.cons (.refl _) (.cons (.refl _) (.cons (.refl _) (.cons (.refl _) (.cons (.refl _) (.cons (.nil 4) (.refl _)))))))))))))))))) (.refl _),trivial⟩
  ·rintro ⟨⟨k,s,j,hh⟩,hk,hs,hj,hr⟩
   dsimp only at hk hs hj hr⊢
   refine ⟨fun h=>?_,fun h=>?_⟩
   ·have h:=of_decide_eq_true h
    obtain ⟨k',rfl⟩:∃ k',k=k'+1:=⟨k - 1,by omega⟩
    obtain ⟨⟨s',j',hh'⟩,⟨e,fe,e1,hj',c⟩,hr'⟩:=hr
    dsimp only at e1 hj' c
    subst e1
    have e2:IntKind.wrap .i64 (((k'+1:Nat):Int) - 1)=(k':Int):=(w64 (by omega) (by omega)).trans (by omega)
    have lw:=ros_len s
    refine ⟨[.mut,.ro,.ro],.agg (GExpr.ro e),[some (.pb (cRow b j' hh')),none,none],.nba rfl c,trivial,?_⟩
    refine ⟨trivial,(by show ((GExpr.ros s).length+1)*56≤_;rw[lw];omega),⟨⟨trivial,trivial,trivial,trivial,trivial⟩,trivial⟩,by kernel_rfl,?_⟩
    refine ⟨⟨(k',s++[e],j',hh'),by dsimp only;omega,by dsimp only;rw[List.length_append,List.length_singleton];omega,hj',hr'⟩,Nat.lt_succ_self _,rfl,rfl,rfl,rfl,rfl,rfl,congrArg (AV.int .i64) e2,.refl _,.refl _,.of_eq ?_,trivial⟩
    exact congrArg (fun z=>[[AV.int .i64 4,AV.str ⟨#[]⟩,AV.int .i64 0,AV.int .i64 0,AV.int .i64 0,AV.int .i64 0,AV.int .i64 0,AV.str ⟨#[]⟩,AV.nils,AV.int .i64 0,AV.int .i64 0,AV.int .i64 0,AV.int .i64 0,AV.str ⟨#[]⟩,AV.nils,AV.int .i64 0,AV.ow 4 z]]) (row_cat s e)
   ·have h:=of_decide_eq_false h
    have:k=0:=by omega
    subst this
    have hr:(s,j,hh)=(l,j3,h3):=hr
    injection hr with r1 r2
    injection r2 with r2 r3
    subst r1;subst r2;subst r3
    exact ⟨line_sim ⟨4,⟨#[]⟩,0,zArg,zArg,0,s⟩ (.nilr 4) (.nilr 4) (ros_ro s),.refl _,trivial⟩
 by_cases y3:y=3
 ·subst y3
  obtain ⟨m,j2,h2,hm,hj2,c2⟩:=spec_l1Below b hb j1 h1 hj1 5 (by decide)
  refine ⟨⟨5,⟨#[]⟩,0,zArg,zArg,0,[numE m]⟩,j2,h2,line_fo (by decide) k0 k0 s0 zArg_fo zArg_fo (by show 1≤100;decide) (fun x hx=>by rw[List.mem_singleton.1 hx];exact fo_okx (num_ok (h:=0) _)),hj2,?_⟩
  refine con Tryz.func250 ?_
  repeat' (first | (exfalso;simp at h;done) | refine And.intro (fun (h:_=true)=>?_) (fun (h:_=false)=>?_) | refine And.intro (fun (h:_=false)=>?_) (fun (h:_=true)=>?_) | refine And.intro (show regOk _ _=true from by kernel_rfl) ?_ | refine ⟨[.mut,.ro],.int .i64 3,[_,none],c1,trivial,?_⟩ | refine ⟨[.mut,.ro],.int .i64 m,[_,none],c2,trivial,?_⟩ | refine ⟨[.ro],.agg (GExpr.ro (numE m)),[none],spec_l10Num m,trivial,?_⟩ | refine And.intro (line_sim ⟨5,⟨#[]⟩,0,zArg,zArg,0,[numE m]⟩ (.nilr 4) (.nilr 4) (one_ro (numE m))) (And.intro (Sim.refl _) trivial) | fail)
 by_cases y4:y=4
 ·subst y4
  obtain ⟨s,j2,h2,hs,hj2,c2⟩:=spec_l1Str b hb j1 h1 hj1 [⟨#[100,97,116,97]⟩,⟨#[99,111,109]⟩] (by simp) (by simp)
  have hs:=str_small hs (by decide)
  obtain ⟨m,j3,h3,hm,hj3,c3⟩:=spec_l1Below b hb j2 h2 hj2 2 (by decide)
  refine ⟨⟨6,s,0,zArg,zArg,m,[]⟩,j3,h3,line_fo (by decide) k0 (by omega) hs zArg_fo zArg_fo l0 f0,hj3,?_⟩
  refine con Tryz.func250 ?_
  repeat' (first | (exfalso;simp at h;done) | refine And.intro (fun (h:_=true)=>?_) (fun (h:_=false)=>?_) | refine And.intro (fun (h:_=false)=>?_) (fun (h:_=true)=>?_) | refine And.intro (show regOk _ _=true from by kernel_rfl) ?_ | refine ⟨[.mut,.ro],.int .i64 4,[_,none],c1,trivial,?_⟩ | refine ⟨[.mut,.frz],.str s,[_,none],c2,trivial,?_⟩ | refine ⟨[.mut,.ro],.int .i64 m,[_,none],c3,trivial,?_⟩ | refine And.intro (line_sim ⟨6,s,0,zArg,zArg,m,[]⟩ (.nilr 4) (.nilr 4) (.nilr 4)) (And.intro (Sim.refl _) trivial) | fail)
 by_cases y5:y=5
 ·subst y5
  obtain ⟨s,j2,h2,hs,hj2,c2⟩:=spec_l1Str b hb j1 h1 hj1 [⟨#[97]⟩,⟨#[103]⟩,⟨#[104]⟩] (by simp) (by simp)
  have hs:=str_small hs (by decide)
  have fe:FO (.mk 2 0 s []):=⟨by simp[GExpr.fit,GExpr.fitL],by simp[GExpr.ok,GExpr.okL];omega⟩
  refine ⟨⟨7,⟨#[]⟩,0,zArg,zArg,0,[.mk 2 0 s []]⟩,j2,h2,line_fo (by decide) k0 k0 s0 zArg_fo zArg_fo (by show 1≤100;decide) (fun x hx=>by rw[List.mem_singleton.1 hx];exact fe),hj2,?_⟩
  have sC:Sim (.ow 4 [[.int .i64 2,.int .i64 0,.str s,.nils]]) (.ro 4 (GExpr.ros [.mk 2 0 s []])):=
   .trans (.ow (.cons (.cons (.refl _) (.cons (.refl _) (.cons (.refl _) (.cons (.nilr 4) (.refl _))))) (.refl _))) (one_ro (.mk 2 0 s []))
  refine con Tryz.func250 ?_
  repeat' (first | (exfalso;simp at h;done) | refine And.intro (fun (h:_=true)=>?_) (fun (h:_=false)=>?_) | refine And.intro (fun (h:_=false)=>?_) (fun (h:_=true)=>?_) | refine And.intro (show regOk _ _=true from by kernel_rfl) ?_ | refine ⟨[.mut,.ro],.int .i64 5,[_,none],c1,trivial,?_⟩ | refine ⟨[.mut,.frz],.str s,[_,none],c2,trivial,?_⟩ | refine And.intro (line_sim ⟨7,⟨#[]⟩,0,zArg,zArg,0,[.mk 2 0 s []]⟩ (.nilr 4) (.nilr 4) sC) (And.intro (Sim.refl _) trivial) | fail)
 by_cases y6:y=6
 ·subst y6
  refine ⟨zLine,j1,h1,line_fo k0 k0 k0 s0 zArg_fo zArg_fo l0 f0,hj1,?_⟩
  refine con Tryz.func250 ?_
  repeat' (first | (exfalso;simp at h;done) | refine And.intro (fun (h:_=true)=>?_) (fun (h:_=false)=>?_) | refine And.intro (fun (h:_=false)=>?_) (fun (h:_=true)=>?_) | refine And.intro (show regOk _ _=true from by kernel_rfl) ?_ | refine ⟨[.mut,.ro],.int .i64 6,[_,none],c1,trivial,?_⟩ | refine And.intro (line_sim zLine (.nilr 4) (.nilr 4) (.nilr 4)) (And.intro (Sim.refl _) trivial) | fail)
 ·obtain ⟨x,j2,h2,hx,hj2,c2⟩:=spec_l12Ins2 b hb j1 h1 hj1
  have d:decide (y=0)=false∧decide (y=1)=false∧decide (y=2)=false∧decide (y=3)=false∧decide (y=4)=false∧decide (y=5)=false∧decide (y=6)=false:=⟨decide_eq_false y0,decide_eq_false y1,decide_eq_false y2,decide_eq_false y3,decide_eq_false y4,decide_eq_false y5,decide_eq_false y6⟩
  refine ⟨x,j2,h2,hx,hj2,?_⟩
  refine con Tryz.func250 ?_
  repeat' (first | (exfalso;have:=of_decide_eq_true h;omega) | refine And.intro (fun (h:_=true)=>?_) (fun (h:_=false)=>?_) | refine And.intro (fun (h:_=false)=>?_) (fun (h:_=true)=>?_) | refine And.intro (show regOk _ _=true from by kernel_rfl) ?_ | refine ⟨[.mut,.ro],.int .i64 y,[_,none],c1,trivial,?_⟩ | refine ⟨[.mut],.agg (GLine.ro x),[_],c2,trivial,?_⟩ | refine And.intro (Sim.refl _) (And.intro (Sim.refl _) trivial) | fail)
theorem texts_len:∀ t∈texts,1≤(parT t).1.length∧(parT t).1.length≤11:=fun t ht=>by
 have h:((parT t).2,(parT t).1.length)∈texts.map fun t=>((parT t).2,(parT t).1.length):=List.mem_map_of_mem ht
 rw[texts_parse] at h
 simp only[List.mem_cons,Prod.mk.injEq,List.not_mem_nil,or_false] at h
 omega
theorem texts_size:∀ t∈texts,t.size≤1000:=by decide
theorem lg_of {x:GLine} (h:lineG x):LG x:=⟨lineG_fit h,lineG_ok h⟩
theorem spec_l15Texts:Con 249 [] (.ow 1 (GString.ows texts)) []:=by
 refine con Tryz.func249 ?_
 exact ⟨.refl _,trivial⟩
theorem lines_cat (a c:List GLine):GLine.ros a++GLine.ros c=GLine.ros (a++c):=by
 rw[GLine.ros_eq,GLine.ros_eq,GLine.ros_eq,List.map_append]
theorem lines_plain:∀ (l:List GLine),plainRows (GLine.ros l)
 | []=>trivial
 | x::l=>⟨⟨trivial,trivial,trivial,trivial,trivial,trivial,trivial,trivial,trivial,trivial,trivial,trivial,trivial,trivial,trivial,trivial,trivial,trivial⟩,lines_plain l⟩
theorem spec_l15Lines (b:List UInt8) (hb:b.length≤1099511627776) (i:Nat) (h:Int) (hi:i≤b.length):∃ (l:List GLine) (j:Nat) (h':Int),(l.length≤100∧∀ x∈l,LG x)∧j≤b.length∧Con 187 [.pb (cRow b i h)] (.ro 17 (GLine.ros l)) [some (.pb (cRow b j h'))]:=by
 obtain ⟨y,j1,h1,hy,hj1,c1⟩:=spec_l1Below b hb i h hi 5 (by decide)
 have hy5:y.toNat < texts.length:=by show y.toNat < 5;omega
 obtain ⟨t,ht⟩:∃ t,texts[y.toNat]?=some t:=⟨_,List.getElem?_eq_getElem hy5⟩
 have hm:=List.mem_of_getElem? ht
 have hrow:(GString.ows texts)[y.toNat]?=some [.str t]:=by
  have e:=map_get (f:=GString.ow) texts y.toNat hy5
  rw[List.getElem?_eq_getElem hy5] at ht
  injection ht with ht
  rw[ht] at e;exact e
 have hlt:y < ((GString.ows texts).length:Int):=by show y < 5;omega
 have hsz:=texts_size t hm
 have cP:=spec_ParseText t (by omega)
 have hlen:=texts_len t hm
 have hgood:∀ x∈(parT t).1,LG x:=fun x hx=>lg_of (parT_good (by omega) x hx)
 generalize parT t=L at*
 obtain ⟨L,pl⟩:=L
 dsimp only at cP hlen hgood
 have hl:=line_len L
 obtain ⟨z,j2,h2,hz,hj2,c2⟩:=spec_l1Below b hb j1 h1 hj1 4 (by decide)
 by_cases z0:z=0
 ·subst z0
  obtain ⟨k,j3,h3,hk,hj3,c3⟩:=spec_l1Below b hb j2 h2 hj2 ((L.length:Int)+1) (by omega)
  obtain ⟨x,j4,h4,hx,hj4,c4⟩:=spec_l12Draw b hb j3 h3 hj3
  obtain ⟨k,rfl⟩:∃ q:Nat,k=q:=⟨k.toNat,by omega⟩
  refine ⟨L.take k++x::L.drop k,j4,h4,⟨by simp;omega,fun q hq=>?_⟩,hj4,?_⟩
  ·rcases List.mem_append.1 hq with g | g
   ·exact hgood q (List.mem_of_mem_take g)
   ·rcases List.mem_cons.1 g with g | g
    ·rw[g];exact hx
    ·exact hgood q (List.mem_of_mem_drop g)
  ·have e1:IntKind.wrap .i64 (((GLine.ros L).length:Int)+1)=(L.length:Int)+1:=by rw[hl];exact w64 (by omega) (by omega)
   refine con Tryz.func187 ?_
   refine ⟨[],.ow 1 (GString.ows texts),[],spec_l15Texts,trivial,?_⟩
   refine ⟨[.mut,.ro],.int .i64 y,[_,none],c1,trivial,hy.1,hlt,_,hrow,?_⟩
   refine ⟨[.ro],.tup [.ro 17 (GLine.ros L),.int .i64 pl],[none],cP,trivial,?_⟩
   refine ⟨[.mut,.ro],.int .i64 0,[_,none],c2,trivial,?_⟩
   refine ⟨fun _=>?_,fun h=>absurd rfl (of_decide_eq_false h)⟩
   refine ⟨[.mut,.ro],.int .i64 k,[_,none],by rw[e1];exact c3,trivial,?_⟩
   have eT:List.take ((k:Int).toNat - 0) (List.drop 0 (GLine.ros L))=GLine.ros (L.take k):=by
    rw[Int.toNat_natCast,Nat.sub_zero,List.drop_zero,GLine.ros_eq,GLine.ros_eq,List.map_take]
   have eD:List.take ((GLine.ros L).length - (k:Int).toNat) (List.drop (k:Int).toNat (GLine.ros L))=GLine.ros (L.drop k):=by
    rw[Int.toNat_natCast,GLine.ros_eq,GLine.ros_eq,List.map_drop,List.take_of_length_le (by rw[List.length_drop];omega)]
   have lT:(L.take k).length≤11:=by rw[List.length_take];omega
   have lD:(L.drop k).length≤11:=by rw[List.length_drop];omega
   refine ⟨Int.natCast_nonneg _,by rw[hl];omega,trivial,(by rw[eT,line_len];show (0+(L.take k).length)*208≤_;omega),by rw[eT];exact lines_plain _,?_⟩
   refine ⟨[.mut],.agg (GLine.ro x),[_],c4,trivial,trivial,(by rw[eT];show ((([]:List (List AV))++GLine.ros (L.take k)).length+1)*208≤_;rw[List.nil_append,line_len];omega),⟨⟨trivial,trivial,trivial,trivial,trivial,trivial,trivial,trivial,trivial,trivial,trivial,trivial,trivial,trivial,trivial,trivial,trivial,trivial⟩,trivial⟩,?_⟩
   refine ⟨Int.natCast_nonneg _,by rw[hl];omega,trivial,(by rw[eT,eD];show ((([]:List (List AV))++GLine.ros (L.take k)++[GLine.ro x]).length+(GLine.ros (L.drop k)).length)*208≤_;rw[List.nil_append,List.length_append,line_len,line_len,List.length_singleton];omega),by rw[eD];exact lines_plain _,by kernel_rfl,?_⟩
   refine ⟨.trans (.frz _) (.of_eq (congrArg (AV.ro 17) ?_)),.refl _,trivial⟩
   have e9:(([]:List (List AV))++List.take ((k:Int).toNat - 0) (List.drop 0 (GLine.ros L))++[GLine.ro x])++List.take ((GLine.ros L).length - (k:Int).toNat) (List.drop (k:Int).toNat (GLine.ros L))=GLine.ros (L.take k++x::L.drop k):=by
    rw[eT,eD,List.nil_append,show [GLine.ro x]=GLine.ros [x] from rfl,lines_cat,lines_cat,List.append_assoc];rfl
   exact (congrArg toRoRows e9).trans (GLine.ror _)
 by_cases z1:z=1
 ·subst z1
  obtain ⟨k,j3,h3,hk,hj3,c3⟩:=spec_l1Below b hb j2 h2 hj2 (L.length:Int) (by omega)
  obtain ⟨k,rfl⟩:∃ q:Nat,k=q:=⟨k.toNat,by omega⟩
  refine ⟨L.take k++L.drop (k+1),j3,h3,⟨by simp;omega,fun q hq=>?_⟩,hj3,?_⟩
  ·rcases List.mem_append.1 hq with g | g
   ·exact hgood q (List.mem_of_mem_take g)
   ·exact hgood q (List.mem_of_mem_drop g)
  ·have e1:IntKind.wrap .i64 ((k:Int)+1)=((k+1:Nat):Int):=(w64 (by omega) (by omega)).trans (by omega)
   have eT:List.take ((k:Int).toNat - 0) (List.drop 0 (GLine.ros L))=GLine.ros (L.take k):=by
    rw[Int.toNat_natCast,Nat.sub_zero,List.drop_zero,GLine.ros_eq,GLine.ros_eq,List.map_take]
   have eD:List.take ((GLine.ros L).length - (IntKind.wrap .i64 ((k:Int)+1)).toNat) (List.drop (IntKind.wrap .i64 ((k:Int)+1)).toNat (GLine.ros L))=GLine.ros (L.drop (k+1)):=by
    rw[e1,Int.toNat_natCast,GLine.ros_eq,GLine.ros_eq,List.map_drop,List.take_of_length_le (by rw[List.length_drop];omega)]
   have lT:(L.take k).length≤11:=by rw[List.length_take];omega
   have lD:(L.drop (k+1)).length≤11:=by rw[List.length_drop];omega
   refine con Tryz.func187 ?_
   refine ⟨[],.ow 1 (GString.ows texts),[],spec_l15Texts,trivial,?_⟩
   refine ⟨[.mut,.ro],.int .i64 y,[_,none],c1,trivial,hy.1,hlt,_,hrow,?_⟩
   refine ⟨[.ro],.tup [.ro 17 (GLine.ros L),.int .i64 pl],[none],cP,trivial,?_⟩
   refine ⟨[.mut,.ro],.int .i64 1,[_,none],c2,trivial,?_⟩
   refine ⟨fun h=>absurd (of_decide_eq_true h) (by decide),fun _=>⟨fun _=>?_,fun h=>absurd rfl (of_decide_eq_false h)⟩⟩
   refine ⟨[.mut,.ro],.int .i64 k,[_,none],by rw[hl];exact c3,trivial,?_⟩
   refine ⟨Int.natCast_nonneg _,by rw[hl];omega,trivial,(by rw[eT,line_len];show (0+(L.take k).length)*208≤_;omega),by rw[eT];exact lines_plain _,?_⟩
   refine ⟨by rw[e1];exact Int.natCast_nonneg _,by rw[e1,hl];omega,trivial,(by rw[eT,eD];show ((([]:List (List AV))++GLine.ros (L.take k)).length+(GLine.ros (L.drop (k+1))).length)*208≤_;rw[List.nil_append,line_len,line_len];omega),by rw[eD];exact lines_plain _,by kernel_rfl,?_⟩
   refine ⟨.trans (.frz _) (.of_eq (congrArg (AV.ro 17) ?_)),.refl _,trivial⟩
   have e9:(([]:List (List AV))++List.take ((k:Int).toNat - 0) (List.drop 0 (GLine.ros L)))++List.take ((GLine.ros L).length - (IntKind.wrap .i64 ((k:Int)+1)).toNat) (List.drop (IntKind.wrap .i64 ((k:Int)+1)).toNat (GLine.ros L))=GLine.ros (L.take k++L.drop (k+1)):=by
    rw[eT,eD,List.nil_append,lines_cat]
   exact (congrArg toRoRows e9).trans (GLine.ror _)
 ·refine ⟨L,j2,h2,⟨by omega,hgood⟩,hj2,?_⟩
  refine con Tryz.func187 ?_
  refine ⟨[],.ow 1 (GString.ows texts),[],spec_l15Texts,trivial,?_⟩
  refine ⟨[.mut,.ro],.int .i64 y,[_,none],c1,trivial,hy.1,hlt,_,hrow,?_⟩
  refine ⟨[.ro],.tup [.ro 17 (GLine.ros L),.int .i64 pl],[none],cP,trivial,?_⟩
  refine ⟨[.mut,.ro],.int .i64 z,[_,none],c2,trivial,?_⟩
  refine ⟨fun h=>absurd (of_decide_eq_true h) z0,fun _=>⟨fun h=>absurd (of_decide_eq_true h) z1,fun _=>?_⟩⟩
  exact ⟨.refl _,.refl _,trivial⟩
end Go.Proofs.VI
