/- Contracts of functions, and what they rest on: l11draw. -/
import Derived.Test.YtjlonhiojgljcaaGreatH3
set_option linter.unusedVariables false
set_option linter.unusedSimpArgs false
set_option maxRecDepth 10000
set_option maxHeartbeats 4000000
namespace Go.Proofs.VI
open Go
mutual
def putX (here:GExpr) (ns:List GString) (vs:List GExpr):GExpr→GExpr
 | .mk k n s l=>if k=3 then here else if k=2∧0≤placeOf ns s then (vs[(placeOf ns s).toNat]?).getD here else .mk k n s (putXL here ns vs l)
def putXL (here:GExpr) (ns:List GString) (vs:List GExpr):List GExpr→List GExpr
 | []=>[]
 | e::l=>putX here ns vs e::putXL here ns vs l
end
theorem putXL_map (here:GExpr) (ns:List GString) (vs:List GExpr) (l:List GExpr):putXL here ns vs l=l.map (putX here ns vs):=by
 induction l with
 | nil=>rfl
 | cons e l ih=>rw[putXL,ih];rfl
theorem putX_un (here:GExpr) (ns:List GString) (vs:List GExpr) (a:GExpr):putX here ns vs a=if a.k=3 then here else if a.k=2∧0≤placeOf ns a.s then (vs[(placeOf ns a.s).toNat]?).getD here else .mk a.k a.n a.s (a.l.map (putX here ns vs)):=by
 cases a;rw[putX,putXL_map];rfl
def FO (e:GExpr):Prop:=GExpr.fit e∧GExpr.ok e
theorem putX_fo {here:GExpr} {ns:List GString} {vs:List GExpr} (h:FO here) (hv:∀ v∈vs,FO v):∀ (a:GExpr),FO a→FO (putX here ns vs a):=by
 refine GExpr.ind fun a ih fa=>?_
 rw[putX_un]
 split
 ·exact h
 split
 ·cases hg:vs[(placeOf ns a.s).toNat]? with
  | none=>exact h
  | some v=>exact hv v (List.mem_of_getElem? hg)
 ·have ua:=GExpr.fit_un fa.1
  have va:=GExpr.ok_un fa.2
  have hm:∀ y∈a.l.map (putX here ns vs),FO y:=fun y hy=>by
   obtain ⟨x,hx,rfl⟩:=List.mem_map.1 hy
   exact ih x hx ⟨ua.2 x hx,va.2.2.2.2 x hx⟩
  exact ⟨GExpr.fit_mk ⟨by simpa [GExpr.l] using ua.1,fun y hy=>(hm y (by simpa [GExpr.l] using hy)).1⟩,GExpr.ok_mk va.1 va.2.1 va.2.2.1 (by simpa using va.2.2.2.1) fun y hy=>(hm y hy).2⟩
theorem spec_l11Put (here:GExpr) (ns:List GString) (vs:List GExpr) (fh:GExpr.fit here) (fv:∀ v∈vs,GExpr.fit v) (hn:ns.length≤1099511627776) (hl:ns.length=vs.length):∀ (a:GExpr) (fa:GExpr.fit a),Con 243 [.agg (GExpr.ro a),.agg (GExpr.ro here),.ro 1 (GString.ros ns),.ro 4 (GExpr.ros vs)] (.agg (GExpr.ow (putX here ns vs a))) [none,none,none,none]:=by
 refine GExpr.ind fun a ih fa=>?_
 have ua:=GExpr.fit_un fa
 have la:=ros_len a.l
 have hX:=putX_un here ns vs a
 refine con Tryz.func243 ?_
 by_cases k3:a.k=3
 ·rw[hX,if_pos k3]
  have c:=spec_l11Copy here fh
  repeat' (first | (exfalso;simp[k3] at h;done) | refine And.intro (fun (h:_=true)=>?_) (fun (h:_=false)=>?_) | refine And.intro (fun (h:_=false)=>?_) (fun (h:_=true)=>?_) | refine And.intro (show regOk _ _=true from by kernel_rfl) ?_ | refine ⟨[.ro],.agg (GExpr.ow here),[none],c,trivial,?_⟩ | refine And.intro (Sim.refl _) trivial | fail)
 ·have c9:=spec_l9At ns a.s hn
  by_cases k2:a.k=2∧0≤placeOf ns a.s
  ·have hp:=placeOf_lt ns a.s
   have hlt:(placeOf ns a.s).toNat < vs.length:=by omega
   have hr:(GExpr.ros vs)[(placeOf ns a.s).toNat]?=some (GExpr.ro vs[(placeOf ns a.s).toNat]):=ros_get _ _ hlt
   have c:=spec_l11Copy vs[(placeOf ns a.s).toNat] (fv _ (List.getElem_mem _))
   have e2:putX here ns vs a=vs[(placeOf ns a.s).toNat]:=by rw[hX,if_neg k3,if_pos k2,List.getElem?_eq_getElem hlt];rfl
   rw[e2]
   have d0:decide (a.k=3)=false:=decide_eq_false k3
   have d1:decide (a.k=2)=true:=decide_eq_true k2.1
   have d2:decide (0≤placeOf ns a.s)=true:=decide_eq_true k2.2
   repeat' (first | (exfalso;(first | rw[d0] at h | rw[d1] at h | rw[d2] at h);cases h;done) | refine And.intro (fun (h:_=true)=>?_) (fun (h:_=false)=>?_) | refine And.intro (fun (h:_=false)=>?_) (fun (h:_=true)=>?_) | refine And.intro (show regOk _ _=true from by kernel_rfl) ?_ | refine ⟨[.ro,.ro],.int .i64 _,[none,none],c9,trivial,?_⟩ | refine ⟨k2.2,_,hr,?_⟩ | refine ⟨[.ro],.agg (GExpr.ow vs[(placeOf ns a.s).toNat]),[none],c,trivial,?_⟩ | refine And.intro (Sim.refl _) trivial | fail)
  ·have e2:putX here ns vs a= .mk a.k a.n a.s (a.l.map (putX here ns vs)):=by rw[hX,if_neg k3,if_neg k2]
   rw[e2]
   have d0:decide (a.k=3)=false:=decide_eq_false k3
   have key:decide (a.k=2)=false∨(decide (a.k=2)=true∧decide (0≤placeOf ns a.s)=false):=by
    by_cases g:a.k=2
    ·exact .inr ⟨decide_eq_true g,decide_eq_false fun z=>k2 ⟨g,z⟩⟩
    ·exact .inl (decide_eq_false g)
   rcases key with d1 | ⟨d1,d2⟩
   case' inl=>
    repeat' (first | (exfalso;(first | rw[d0] at h | rw[d1] at h);cases h;done) | refine And.intro (fun (h:_=true)=>?_) (fun (h:_=false)=>?_) | refine And.intro (fun (h:_=false)=>?_) (fun (h:_=true)=>?_) | refine And.intro (show regOk _ _=true from by kernel_rfl) ?_ | refine ⟨{i:Nat // i≤a.l.length},fun i=>⟨[(2,.ro 1 (GString.ros ns)),(3,.ro 4 (GExpr.ros vs)),(4,.ptr 0 0 0),(5,.ptr 1 0 0),(8,.ptr 2 0 0),(10,.ptr 3 0 0),(11,.int .i64 i.1)],[(0,.box (GExpr.ro a) []),(1,.box (GExpr.ro here) []),(2,.box [.int .i64 0,.int .i64 0,.str ⟨#[]⟩,.nils] []),(3,.box [.int .i64 a.k,.int .i64 a.n,.str a.s,.ow 4 (GExpr.ows ((a.l.take i.1).map (putX here ns vs)))] [])]⟩,fun i=>a.l.length - i.1,⟨0,Nat.zero_le _⟩,?_,?_⟩ | fail)
   case' inr=>
    repeat' (first | (exfalso;(first | rw[d0] at h | rw[d1] at h | rw[d2] at h);cases h;done) | refine And.intro (fun (h:_=true)=>?_) (fun (h:_=false)=>?_) | refine And.intro (fun (h:_=false)=>?_) (fun (h:_=true)=>?_) | refine And.intro (show regOk _ _=true from by kernel_rfl) ?_ | refine ⟨[.ro,.ro],.int .i64 _,[none,none],c9,trivial,?_⟩ | refine ⟨{i:Nat // i≤a.l.length},fun i=>⟨[(2,.ro 1 (GString.ros ns)),(3,.ro 4 (GExpr.ros vs)),(4,.ptr 0 0 0),(5,.ptr 1 0 0),(8,.ptr 2 0 0),(10,.ptr 3 0 0),(11,.int .i64 i.1)],[(0,.box (GExpr.ro a) []),(1,.box (GExpr.ro here) []),(2,.box [.int .i64 0,.int .i64 0,.str ⟨#[]⟩,.nils] []),(3,.box [.int .i64 a.k,.int .i64 a.n,.str a.s,.ow 4 (GExpr.ows ((a.l.take i.1).map (putX here ns vs)))] [])]⟩,fun i=>a.l.length - i.1,⟨0,Nat.zero_le _⟩,?_,?_⟩ | fail)
   all_goals first
    | exact ⟨rfl,rfl,rfl,rfl,rfl,rfl,rfl,rfl,rfl,rfl,rfl,.refl _,.refl _,.refl _,.cons (.cons (.refl _) (.cons (.refl _) (.cons (.refl _) (.cons (.nil 4) (.refl _))))) (.refl _),trivial⟩
    | skip
   all_goals
    rintro ⟨i,hi⟩
    dsimp only
    refine ⟨fun h=>?_,fun h=>?_⟩<;>simp only[la,decide_eq_true_eq,decide_eq_false_iff_not] at h
    ·have hi:i < a.l.length:=by omega
     refine ⟨Int.natCast_nonneg _,_,ros_get _ _ hi,[.ro,.ro,.ro,.ro],.agg (GExpr.ow (putX here ns vs a.l[i])),[none,none,none,none],ih _ (List.getElem_mem hi) (ua.2 _ (List.getElem_mem hi)),trivial,by kernel_rfl,trivial,?_,⟨⟨trivial,trivial,trivial,trivial,trivial⟩,trivial⟩,?_⟩
     ·show ((GExpr.ows ((a.l.take i).map (putX here ns vs))).length+1)*56≤_
      rw[ows_len,List.length_map,List.length_take];omega
     ·refine ⟨⟨i+1,hi⟩,Nat.sub_succ_lt_self _ _ hi,rfl,rfl,rfl,rfl,rfl,rfl,rfl,rfl,rfl,rfl,congrArg (AV.int .i64) (w64 (by omega) (by omega)),.refl _,.refl _,.refl _,.of_eq ?_,trivial⟩
      have e:(a.l.take (i+1)).map (putX here ns vs)=(a.l.take i).map (putX here ns vs)++[putX here ns vs a.l[i]]:=by rw[List.take_add_one,List.getElem?_eq_getElem hi,List.map_append];rfl
      show _=[[AV.int .i64 a.k,.int .i64 a.n,.str a.s,.ow 4 (GExpr.ows ((a.l.take (i+1)).map (putX here ns vs)))]]
      rw[e]
      exact congrArg (fun z=>[[AV.int .i64 a.k,.int .i64 a.n,.str a.s,.ow 4 z]]) (snoc_row ((a.l.take i).map (putX here ns vs)) (putX here ns vs a.l[i]))
    ·refine ⟨.of_eq ?_,trivial⟩
     show AV.agg [.int .i64 a.k,.int .i64 a.n,.str a.s,.ow 4 (GExpr.ows ((a.l.take i).map (putX here ns vs)))]=_
     rw[List.take_of_length_le (by omega)];rfl
theorem fo_okx {h:Nat} {e:GExpr} (x:OkX h e):FO e:=⟨x.fit,x.ok⟩
theorem le_nil (k n:Int) (s:ByteArray):LeL [.int .i64 k,.int .i64 n,.str s,.nils] (GExpr.ro (.mk k n s [])):= .cons (.refl _) (.cons (.refl _) (.cons (.refl _) (.cons (.nilr 4) (.refl _))))
def flatN:List GString:=[strA 97,strA 98,strA 99]
def flatV:List GExpr:=[numE 7,.mk 11 0 ⟨#[]⟩ [],.mk 12 0 (strA 103) []]
def flatH:GExpr:= .mk 11 1 ⟨#[]⟩ []
theorem flatV_fo:∀ v∈flatV,FO v:=by
 intro v hv
 simp only[flatV,List.mem_cons,List.not_mem_nil,or_false] at hv
 rcases hv with rfl | rfl | rfl
 ·exact fo_okx (num_ok (h:=0) 7)
 ·exact fo_okx (OkX.sect (h:=0) (by decide) (by decide))
 ·exact fo_okx (OkX.name (h:=0) (.inr rfl) nm_a.2.2.2.1)
theorem flatH_fo:FO flatH:=fo_okx (OkX.sect (h:=0) (by decide) (by decide))
theorem spec_l11Flat (b:List UInt8) (hb:b.length≤1099511627776) (i:Nat) (h:Int) (hi:i≤b.length) (d:Nat) (hd:d≤100):∃ (e:GExpr) (j:Nat) (h':Int),FO e∧j≤b.length∧Con 180 [.pb (cRow b i h),.int .i64 d] (.agg (GExpr.ro e)) [some (.pb (cRow b j h')),none]:=by
 obtain ⟨e,j,h',he,hj,c⟩:=spec_l10Draw b hb false d hd i h hi
 have c2:=spec_l11Put flatH flatN flatV flatH_fo.1 (fun v hv=>(flatV_fo v hv).1) (by decide) rfl e he.fit
 have c3:Con 243 [.agg (GExpr.ro e),.agg [.int .i64 11,.int .i64 1,.str ⟨#[]⟩,.nils],.ro 1 (GString.ros flatN),.ro 4 [GExpr.ro (numE 7),[.int .i64 11,.int .i64 0,.str ⟨#[]⟩,.nils],[.int .i64 12,.int .i64 0,.str (strA 103),.nils]]] (.agg (GExpr.ow (putX flatH flatN flatV e))) [none,none,none,none]:=
  .le (.cons (.refl _) (.cons (.agg (le_nil _ _ _)) (.cons (.refl _) (.cons (.ro (.cons (.refl _) (.cons (le_nil _ _ _) (.cons (le_nil _ _ _) (.refl _))))) (.refl _))))) c2
 refine ⟨putX flatH flatN flatV e,j,h',putX_fo flatH_fo flatV_fo e (fo_okx he),hj,?_⟩
 clear c2
 refine con Tryz.func180 ?_
 repeat' (first | refine And.intro (fun (h:_=true)=>?_) (fun (h:_=false)=>?_) | refine And.intro (fun (h:_=false)=>?_) (fun (h:_=true)=>?_) | refine And.intro (show regOk _ _=true from by kernel_rfl) ?_ | refine ⟨[.mut,.ro,.ro],.agg (GExpr.ro e),[some (.pb (cRow b j h')),none,none],.nba rfl c,trivial,?_⟩ | refine ⟨[.ro],.agg (GExpr.ro (numE 7)),[none],spec_l10Num 7,trivial,?_⟩ | refine ⟨[.ro,.ro,.frz,.frz],.agg (GExpr.ow (putX flatH flatN flatV e)),[none,none,none,none],c3,trivial,?_⟩ | refine And.intro (simOwRo _) (And.intro (Sim.refl _) trivial) | fail)
def nestE (e:GExpr):Nat→GExpr
 | 0=>e
 | n+1=> .mk 4 0 ⟨#[]⟩ [nestE e n]
theorem nest_fo {e:GExpr} (h:FO e):∀ n,FO (nestE e n)
 | 0=>h
 | n+1=>by
  have ih:=nest_fo h n
  exact ⟨GExpr.fit_mk ⟨by simp[nestE,GExpr.l],fun y hy=>by simp[nestE,GExpr.l] at hy;subst hy;exact ih.1⟩,GExpr.ok_mk (by decide) (by decide) (by decide) (by simp) fun y hy=>by simp at hy;subst hy;exact ih.2⟩
theorem fo_set {k n k' n':Int} {s s':ByteArray} {l:List GExpr} (h:FO (.mk k n s l)) (hk: -9223372036854775808≤k'∧k'≤9223372036854775807) (hn: -9223372036854775808≤n'∧n'≤9223372036854775807) (hs:s'.size≤9223372036854775807):FO (.mk k' n' s' l):=by
 have ua:=GExpr.fit_un h.1
 have va:=GExpr.ok_un h.2
 exact ⟨GExpr.fit_mk ua,GExpr.ok_mk hk hn hs va.2.2.2.1 va.2.2.2.2⟩
theorem spec_l10Any (b:List UInt8) (hb:b.length≤1099511627776) (i:Nat) (h:Int) (hi:i≤b.length):∃ (e:GExpr) (j:Nat) (h':Int),FO e∧j≤b.length∧Con 107 [.pb (cRow b i h)] (.agg (GExpr.ro e)) [some (.pb (cRow b j h'))]:=by
 obtain ⟨o,j1,h1,hj1,c1⟩:=spec_l1Once b hb i h hi 2 (by decide)
 obtain ⟨e,j2,h2,he,hj2,c2⟩:=spec_l10Draw b hb o 3 (by decide) j1 h1 hj1
 obtain ⟨x,j3,h3,hx,hj3,c3⟩:=spec_l1Below b hb j2 h2 hj2 14 (by decide)
 have fe:=fo_okx he
 clear he
 obtain ⟨k,n,s,l⟩:=e
 have va:=GExpr.ok_un fe.2
 have vk: -9223372036854775808≤k∧k≤9223372036854775807:=va.1
 have vn: -9223372036854775808≤n∧n≤9223372036854775807:=va.2.1
 have vs:s.size≤9223372036854775807:=va.2.2.1
 by_cases x0:x=0
 ·subst x0
  obtain ⟨y,j4,h4,hy,hj4,c4⟩:=spec_l1Below b hb j3 h3 hj3 14 (by decide)
  refine ⟨.mk y n s l,j4,h4,fo_set fe (by omega) vn vs,hj4,?_⟩
  refine con Tryz.func107 ?_
  repeat' (first | (exfalso;simp at h;done) | refine And.intro (fun (h:_=true)=>?_) (fun (h:_=false)=>?_) | refine And.intro (fun (h:_=false)=>?_) (fun (h:_=true)=>?_) | refine And.intro (show regOk _ _=true from by kernel_rfl) ?_ | refine ⟨[.mut,.ro],.bool o,[_,none],c1,trivial,?_⟩ | refine ⟨[.mut,.ro,.ro],.agg (GExpr.ro (.mk k n s l)),[_,none,none],c2,trivial,?_⟩ | refine ⟨[.mut,.ro],.int .i64 0,[_,none],c3,trivial,?_⟩ | refine ⟨[.mut,.ro],.int .i64 y,[_,none],c4,trivial,?_⟩ | refine And.intro (Sim.refl _) (And.intro (Sim.refl _) trivial) | fail)
 by_cases x1:x=1
 ·subst x1
  obtain ⟨y,j4,h4,hy,hj4,c4⟩:=spec_l1Int b hb j3 h3 hj3 [-1,1,65536] (by simp) (by simp)
  have hy2: -9223372036854775808≤y∧y≤9223372036854775807:=by
   simp only[List.mem_cons,List.not_mem_nil,or_false] at hy
   omega
  refine ⟨.mk k y s l,j4,h4,fo_set fe vk hy2 vs,hj4,?_⟩
  refine con Tryz.func107 ?_
  repeat' (first | (exfalso;simp at h;done) | refine And.intro (fun (h:_=true)=>?_) (fun (h:_=false)=>?_) | refine And.intro (fun (h:_=false)=>?_) (fun (h:_=true)=>?_) | refine And.intro (show regOk _ _=true from by kernel_rfl) ?_ | refine ⟨[.mut,.ro],.bool o,[_,none],c1,trivial,?_⟩ | refine ⟨[.mut,.ro,.ro],.agg (GExpr.ro (.mk k n s l)),[_,none,none],c2,trivial,?_⟩ | refine ⟨[.mut,.ro],.int .i64 1,[_,none],c3,trivial,?_⟩ | refine ⟨[.mut,.frz],.int .i64 y,[_,none],c4,trivial,?_⟩ | refine And.intro (Sim.refl _) (And.intro (Sim.refl _) trivial) | fail)
 by_cases x2:x=2
 ·subst x2
  obtain ⟨y,j4,h4,hy,hj4,c4⟩:=spec_l1Str b hb j3 h3 hj3 [⟨#[]⟩,strA 97,⟨#[109,111,118]⟩,strA 65] (by simp) (by simp)
  have hy2:y.size≤9223372036854775807:=by
   simp only[List.mem_cons,List.not_mem_nil,or_false] at hy
   rcases hy with rfl | rfl | rfl | rfl<;>decide
  refine ⟨.mk k n y l,j4,h4,fo_set fe vk vn hy2,hj4,?_⟩
  refine con Tryz.func107 ?_
  repeat' (first | (exfalso;simp at h;done) | refine And.intro (fun (h:_=true)=>?_) (fun (h:_=false)=>?_) | refine And.intro (fun (h:_=false)=>?_) (fun (h:_=true)=>?_) | refine And.intro (show regOk _ _=true from by kernel_rfl) ?_ | refine ⟨[.mut,.ro],.bool o,[_,none],c1,trivial,?_⟩ | refine ⟨[.mut,.ro,.ro],.agg (GExpr.ro (.mk k n s l)),[_,none,none],c2,trivial,?_⟩ | refine ⟨[.mut,.ro],.int .i64 2,[_,none],c3,trivial,?_⟩ | refine ⟨[.mut,.frz],.str y,[_,none],c4,trivial,?_⟩ | refine And.intro (Sim.refl _) (And.intro (Sim.refl _) trivial) | fail)
 by_cases x3:x=3
 ·subst x3
  obtain ⟨y,j4,h4,hy,hj4,c4⟩:=spec_l1Below b hb j3 h3 hj3 7 (by decide)
  obtain ⟨m,rfl⟩:∃ m:Nat,y=m:=⟨y.toNat,by omega⟩
  have hm:m≤7:=by omega
  refine ⟨nestE (.mk k n s l) m,j4,h4,nest_fo fe m,hj4,?_⟩
  refine con Tryz.func107 ?_
  repeat' (first | (exfalso;simp at h;done) | refine And.intro (fun (h:_=true)=>?_) (fun (h:_=false)=>?_) | refine And.intro (fun (h:_=false)=>?_) (fun (h:_=true)=>?_) | refine And.intro (show regOk _ _=true from by kernel_rfl) ?_ | refine ⟨[.mut,.ro],.bool o,[_,none],c1,trivial,?_⟩ | refine ⟨[.mut,.ro,.ro],.agg (GExpr.ro (.mk k n s l)),[_,none,none],c2,trivial,?_⟩ | refine ⟨[.mut,.ro],.int .i64 3,[_,none],c3,trivial,?_⟩ | refine ⟨[.mut,.ro],.int .i64 m,[_,none],c4,trivial,?_⟩ | refine ⟨{q:Nat // q≤m},fun q=>⟨[(0,.ptr 0 0 0),(2,.ptr 1 0 0),(3,.ptr 2 0 0),(4,.int .i64 ((m:Int) - q.1))],[(0,.box (cRow b j4 h4) []),(1,.box [.int .i64 0,.int .i64 0,.str ⟨#[]⟩,.nils] []),(2,.box (GExpr.ro (nestE (.mk k n s l) q.1)) [])]⟩,fun q=>m - q.1,⟨0,Nat.zero_le _⟩,?_,?_⟩ | fail)
  ·exact ⟨rfl,rfl,rfl,rfl,rfl,rfl,congrArg (AV.int .i64) (Int.sub_zero _).symm,.refl _,.refl _,.refl _,trivial⟩
  ·rintro ⟨q,hq⟩
   dsimp only
   refine ⟨fun h=>?_,fun h=>?_⟩<;>simp only[decide_eq_true_eq,decide_eq_false_iff_not] at h
   ·have e1:IntKind.wrap .i64 ((m:Int) - (q:Int) - 1)=(m:Int) - ((q+1:Nat):Int):=(w64 (by omega) (by omega)).trans (by omega)
    refine ⟨⟨q+1,by omega⟩,by dsimp only;omega,rfl,rfl,rfl,rfl,rfl,rfl,congrArg (AV.int .i64) e1,.refl _,.refl _,.cons (.cons (.refl _) (.cons (.refl _) (.cons (.refl _) (.cons ?_ (.refl _))))) (.refl _),trivial⟩
    have g:=Sim.frz (.ow 4 [GExpr.ro (nestE (.mk k n s l) q)])
    have e2:toRoRows [GExpr.ro (nestE (.mk k n s l) q)]=GExpr.ros [nestE (.mk k n s l) q]:=by
     rw[show [GExpr.ro (nestE (.mk k n s l) q)]=GExpr.ros [nestE (.mk k n s l) q] from by rw[GExpr.ros_eq];rfl,GExpr.ror]
    simp only[toRo,e2] at g
    exact g
   ·have e:q=m:=by omega
    subst e
    exact ⟨.refl _,.refl _,trivial⟩
 ·have d:decide (x=0)=false∧decide (x=1)=false∧decide (x=2)=false∧decide (x=3)=false:=⟨decide_eq_false x0,decide_eq_false x1,decide_eq_false x2,decide_eq_false x3⟩
  refine ⟨.mk k n s l,j3,h3,fe,hj3,?_⟩
  refine con Tryz.func107 ?_
  repeat' (first | (exfalso;(first | rw[d.1] at h | rw[d.2.1] at h | rw[d.2.2.1] at h | rw[d.2.2.2] at h);cases h;done) | refine And.intro (fun (h:_=true)=>?_) (fun (h:_=false)=>?_) | refine And.intro (fun (h:_=false)=>?_) (fun (h:_=true)=>?_) | refine And.intro (show regOk _ _=true from by kernel_rfl) ?_ | refine ⟨[.mut,.ro],.bool o,[_,none],c1,trivial,?_⟩ | refine ⟨[.mut,.ro,.ro],.agg (GExpr.ro (.mk k n s l)),[_,none,none],c2,trivial,?_⟩ | refine ⟨[.mut,.ro],.int .i64 x,[_,none],c3,trivial,?_⟩ | refine And.intro (Sim.refl _) (And.intro (Sim.refl _) trivial) | fail)
end Go.Proofs.VI
