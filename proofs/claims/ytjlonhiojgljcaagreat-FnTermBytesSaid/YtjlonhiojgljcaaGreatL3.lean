/- VI: values, a private heap for each call, and what code comes to; part 3. -/
import Derived.Test.YtjlonhiojgljcaaGreatL2
section
set_option linter.unusedVariables false
set_option linter.unusedSimpArgs false
namespace Go.Proofs.VI
open Go
section
variable {P:Program} {w w':World} {κ κ' κ3:Gh} {m m':Nat→Addr} {n n':Nat} {s:Slots} {h h':Heap} {a:Act} {L L':AV→Value→Prop} {tt:TypeId→Option TI}
theorem closes_mono {fuel:Nat}:∀ {vs:List AV} {ms:List CMode} {h1:Heap} {vis:List Nat} {K K':List AV→Heap→List Nat→Prop},(∀ v h vis,K v h vis→K' v h vis)→closes fuel h1 vis vs ms K→closes fuel h1 vis vs ms K'
 | [],ms,h1,vis,K,K',hK,hk=>hK _ _ _ hk
 | v::vs,[],h1,vis,K,K',hK,hk=>(show False from hk).elim
 | v::vs,md::ms,h1,vis,K,K',hK,hk=>by
  simp only[closes] at hk⊢
  exact closeV_mono (fun v h2 vis hk2=>closes_mono (fun r h vis hk=>hK _ _ _ hk) hk2) hk
theorem relL_shift {c c':Nat}:∀ {vs:List AV} {us:List Value},relL w κ L none c vs us→relL w κ L none c' vs us:=fun {vs us} hv=>by
 obtain ⟨g1,g2⟩:=relL_get hv
 exact relL_mk g1 fun j x y hx hy=>by simpa [kid] using g2 j x y hx hy
theorem relL_app {vs2:List AV} {us2:List Value}:∀ {vs:List AV} {us:List Value} {c:Nat},relL w κ L none c vs us→(∀ c,relL w κ L none c vs2 us2)→relL w κ L none c (vs++vs2) (us++us2)
 | [],us,c,hv,h2=>by
  have:us=[]:=hv
  subst this
  exact h2 c
 | v::vs,us,c,hv,h2=>by
  obtain ⟨u,us',rfl,h3,h4⟩:=hv
  exact ⟨u,us'++us2,rfl,h3,relL_app h4 h2⟩
theorem norm_rel {K:Option Key} {v:AV} {u:Value} (hv:relV w κ L K (norm v) u):relV w κ L K v u:=by
 cases v<;>exact hv
theorem opOk_of_callRun {o:Oper} {K:Bool→Nat→AV→Heap→Prop} {f:FuncId} {vals:Array Value} (hrun:(execOp a.eval o).run P w=(callFunc f vals).run P w) (hc:callRun P f vals w fun v w'=>Post K w κ m n s h a o.dst (a.put o.dst v) w'):OpOk P o K w κ m n s h a:=by
 unfold OpOk Oper.wp
 rw[hrun]
 unfold callRun at hc
 split at hc
 ·rename_i g args w1 e
  rw[e,Oper.upon_enter]
  refine Calls.mono hc fun e w2 he=>?_
  obtain ⟨v,rfl,hv⟩:=he
  exact hv
 ·rename_i v w1 e
  rw[e]
  exact hc
 ·exact hc.elim
theorem call_run {o:Oper} {c:Call} {fo:Operand} {f:FuncId} {cap:List Value} (ho:o.op= .call c) (hc:c.callee= .value fo) (hf:a.eval fo= .func (.func f) #[] cap.toArray):(execOp a.eval o).run P w=(callFunc f (c.args.toList.map a.eval++cap).toArray).run P w:=by
 have e:(c.args.toList.map a.eval++cap).toArray=c.args.map a.eval++cap.toArray:=by
  apply Array.ext'
  simp
 unfold execOp
 rw[ho,e]
 simp only[resolve,hc,hf,Deferred.ofValue,Sem.run_bind,Sem.run_pure,Result.andThen_ok,invoke]
 congr 2
 simp
def backG (N:Nat) (mu:Key→Option Key) (g:List (Nat×Nat)→Option Key) (x:Option G):Option G:=
 match x with
 | some (.key K)=>if K.1 < N then (match mu K with | some k=>some (.key k) | none=>none) else (match g K.2 with | some k=>some (.key k) | none=>none)
 | some .imm=>some .imm
 | none=>none
def afterG (w:World) (κ:Gh) (T:TL) (F:List Nat) (bk:Option G→Option G) (κr:Gh):Gh:=fun b=>
 if b < w.heap.size then (match κ b with
  | some (.key K)=>(match T.find? (fun x=>x.1 == K.1) with
   | some _=>bk (κr b)
   | none=>if K.1∈F then some .imm else some (.key K))
  | x=>x)
 else bk (κr b)
theorem noRoO_get:∀ {outs:List (Option AV)},noRoO outs→∀ {i:Nat} {o:AV},outs[i]?=some (some o)→noRo o
 | [],_,i,o,h=>by simp at h
 | some v::outs,hn,0,o,h=>by simp at h;subst h;exact hn.1
 | none::outs,hn,0,o,h=>by simp at h
 | some v::outs,hn,i+1,o,h=>noRoO_get hn.2 (by simpa using h)
 | none::outs,hn,i+1,o,h=>noRoO_get (show noRoO outs from hn) (by simpa using h)
theorem closes_boxes (R:Rel w κ m n s h a) {fuel N:Nat}:∀ {vs:List AV} {ms:List CMode} {j c:Nat} {us:List Value} {h1:Heap} {vis:List Nat} {K:List AV→Heap→List Nat→Prop},j+vs.length≤N→Sub h1 h→relL w κ (liveV w κ m n h) none c vs us→closes fuel h1 vis vs ms K→
  ∀ (i id r c:Nat),vs[i]?=some (AV.ptr id r c)→ms[i]?=some CMode.mut→c=0∧∃ row hs,h id=some (.box row hs)
 | [],ms,j,c,us,h1,vis,K,hN,hs,hv,hk=>fun i id r c e=>by simp at e
 | v::vs,[],j,c,us,h1,vis,K,hN,hs,hv,hk=>(show False from hk).elim
 | v::vs,md::ms,j,c,us,h1,vis,K,hN,hs,hv,hk=>by
  obtain ⟨u,us',rfl,h2,h3⟩:=hv
  simp only[List.length_cons] at hN
  have hk0:closeV fuel md h1 vis v (fun v h vis=>closes fuel h vis vs ms fun vs h vis=>K (v::vs) h vis):=hk
  obtain ⟨v',g1,vis1,T1,F1,V1,hk1,c1,r1,_⟩:=closeV_sound R (rk:=(j,[])) (N:=N) (by show j < N;omega) hs (by simpa [kid] using h2) hk0
  have ih:=closes_boxes R (vs:=vs) (ms:=ms) (j:=j+1) (show j+1+vs.length≤N by omega) (c1.sub.trans hs) h3 hk1
  intro i id r c ev em
  cases i with
  | zero=>
   simp at ev em
   subst ev;subst em
   simp only[closeV,closeA,closeC] at hk0
   split at hk0
   ·rename_i row hs2 hid
    split at hk0
    ·exact ⟨rfl,row,hs2,hs.some hid⟩
    ·exact hk0.elim
   ·exact hk0.elim
   ·exact hk0.elim
  | succ i=>exact ih i id r c (by simpa using ev) (by simpa using em)
theorem relL_at {c:Nat}:∀ {vs:List AV} {us:List Value} {c:Nat},relL w κ L none c vs us→∀ {i:Nat} {v:AV},vs[i]?=some v→∃ u,us[i]?=some u∧relV w κ L none v u
 | [],us,c,hv,i,v,hi=>by simp at hi
 | x::vs,us,c,hv,0,v,hi=>by
  obtain ⟨u,us',rfl,h3,h4⟩:=hv
  simp at hi;subst hi
  exact ⟨u,rfl,h3⟩
 | x::vs,us,c,hv,i+1,v,hi=>by
  obtain ⟨u,us',rfl,h3,h4⟩:=hv
  obtain ⟨u',h5,h6⟩:=relL_at (c:=c) h4 (i:=i) (v:=v) (by simpa using hi)
  exact ⟨u',by simpa using h5,h6⟩
theorem outs_rel:∀ {outs:List (Option AV)} {us:List Value} {j:Nat},relOuts w κ j outs us→∀ {i:Nat} {o:AV} {u:Value},outs[i]?=some (some o)→us[i]?=some u→relV w κ noL (some (j+i,[])) o u
 | [],us,j,h,i,o,u,hi,hu=>by simp at hi
 | x::outs,[],j,h,i,o,u,hi,hu=>by simp at hu
 | x::outs,v::us,j,h,0,o,u,hi,hu=>by
  simp at hi hu;subst hi;subst hu;exact h.1
 | x::outs,v::us,j,h,i+1,o,u,hi,hu=>by
  rw[show j+(i+1)=j+1+i by omega]
  exact outs_rel h.2 (by simpa using hi) (by simpa using hu)
def muOf (M:List Mu) (K:Key):Option Key:=(M.find? (fun x=>x.j == K.1&&x.p.isPrefixOf K.2)).map fun x=>(x.id,K.2.drop x.p.length)
variable {C:FuncId→List AV→AV→List (Option AV)→Prop}
theorem ok_call (HC:∀ f args res outs,C f args res outs→Contract P f args res outs) (R:Rel w κ m n s h a) {o:Oper} {c:Call} {fo:Operand} (ho:o.op= .call c) (hc:c.callee= .value fo) {K:Bool→Nat→AV→Heap→Prop}
  (hk:opv s fo fun f=>match f with | .fn f cap=>opvs s c.args.toList fun vs=>call C n f (vs++cap) h K | _=>False):OpOk P o K w κ m n s h a:=by
 obtain ⟨vf,hk1,hvf⟩:=opv_sound R hk
 clear hk
 cases vf<;>simp only at hk1
 case fn f cap=>
  obtain ⟨cvals,hf,hcv⟩:=hvf
  obtain ⟨vs0,hk2,hvs0⟩:=opvs_sound (K:=fun _=>True) R hk1
  clear hk1
  obtain ⟨vals,hvals⟩:∃ vals,vals=c.args.toList.map a.eval++cvals:=⟨_,rfl⟩
  have hvs:relL w κ (liveV w κ m n h) none 0 (vs0++cap) vals:=by rw[hvals];exact relL_app (hvs0 0) (fun c=>relL_shift hcv)
  generalize vs0++cap=vs at hvs hk2
  obtain ⟨ms,res,outs,hcl⟩:=hk2
  have hcl2:=(show closes 40 h [] vs ms (fun args h2 vis=>(ms.all isRo=true→h2=h)∧(C f args (norm res) outs∧(match vis with | []=>True | _::_=>noRo res∧noRoO outs)∧
    (match alive h2 vis with | true=>backs h2 vs ms outs fun h=>openV n h res fun n v h=>K (!ms.all isRo) n v h | false=>False))) from by
   by_cases hro:ms.all isRo=true
   ·exact closes_mono (fun v h vis hk=>⟨fun _=>hk.1,hk.2⟩) (closes_heap hro hcl)
   ·exact closes_mono (fun v h vis hk=>⟨fun e=>absurd e hro,hk⟩) hcl)
  clear hcl
  obtain ⟨args,h2,vis,T,F,V,hk,CL,hlen,hargs,hsl⟩:=closes_sound (N:=vs.length) R (j:=0) (by omega) (Sub.refl h) hvs hcl2
  have hbox:=closes_boxes (N:=vs.length) R (j:=0) (by omega) (Sub.refl h) hvs hcl2
  clear hcl2
  obtain ⟨hro,hC,hvis,hk⟩:=hk
  cases hal:alive h2 vis with
  | false=>rw[hal] at hk;exact hk.elim
  | true=>
   rw[hal] at hk
   simp only at hk
   obtain ⟨h3,M,hk,hM,hh3⟩:=backs_sound (j0:=0) hk
   obtain ⟨n',v',h',hk,hnn,g,hg,hopen⟩:=openV_sound hk
   have hVT:∀ i∈V,i∉T.map Prod.fst:=fun i hi hm=>by
    obtain ⟨x,hx,e⟩:=List.mem_map.1 hm
    exact alive_mem hal i (CL.lent i hi) (by rw[←e];exact (CL.tk x hx).2.1)
   have SP:Spec κ (callG κ T (F++V)) T F V:=spec_callG CL.nodup CL.apart hVT
   have hrel:=hargs _ SP
   have hlow:∀ b g,callG κ T (F++V) b=some g→b < w.heap.size:=fun b g hb=>by
    cases e:κ b with
    | none=>simp[callG,e] at hb
    | some g'=>exact R.low b g' e
   have hfresh:∀ b id p,callG κ T (F++V) b=some (.key (id,p))→id < args.length:=fun b id p hb=>by
    unfold callG at hb
    split at hb
    ·rename_i K0 hK0
     split at hb
     ·rename_i x hx
      have hx2:=List.mem_of_find?_eq_some hx
      injection hb with hb
      injection hb with hb
      have:=(CL.tk x hx2).2.2 K0.2
      rw[hb] at this
      rw[hlen]
      exact this
     ·split at hb<;>cases hb
    ·rename_i hne
     exact absurd hb (hne _)
   refine opOk_of_callRun (call_run ho hc hf) ?_
   rw[←hvals]
   refine callRun_mono (fun u w' hq=>?_) (HC f args _ outs hC _ w vals hlow hfresh hrel)
   obtain ⟨κr,hres,houts,S,hlow',hfresh'⟩:=hq
   have hres:=norm_rel hres
   let κ3:Gh:=afterG w κ T F (backG args.length (muOf M) g) κr
   have hsame:∀ x∈M,∀ y∈M,∀ q:List (Nat×Nat),y.j=x.j→y.p <+:x.p++q→y.id=x.id∧y.p=x.p:=fun x hx y hy q e hpre=>by
    obtain ⟨i,e1,h1⟩:=hM x hx
    obtain ⟨i',e1',h1'⟩:=hM y hy
    have:i'=i:=by omega
    subst this
    rcases h1 with ⟨r,c,row,p1,_,e2,_⟩ | ⟨k,rows,v,md,o,_,e2,_,_,p1⟩<;>rcases h1' with ⟨r',c',row',p1',_,e2',_⟩ | ⟨k',rows',v',md',o',_,e2',_,_,p1'⟩<;>rw[e2] at e2'<;>injection e2' with e2'
    ·injection e2' with e5;exact ⟨e5.symm,by rw[p1,p1']⟩
    ·rcases p1' with ⟨a,_⟩ | ⟨_,_,_,_,a,_⟩<;>(rw[a] at e2';cases e2')
    ·rcases p1 with ⟨a,_⟩ | ⟨_,_,_,_,a,_⟩<;>(rw[a] at e2';cases e2')
    ·subst e2'
     rcases p1 with ⟨a1,a2,a3,a4⟩ | ⟨cs,ks,c,os,a1,a2,a3,a4,a5,a6⟩<;>rcases p1' with ⟨b1,b2,b3,b4⟩ | ⟨cs',ks',c',os',b1,b2,b3,b4,b5,b6⟩<;>rw[a1] at b1
     ·injection b1 with b1
      exact ⟨b1.symm,by rw[a3,b3]⟩
     ·cases b1
     ·cases b1
     ·injection b1 with b1
      subst b1
      rw[a5,b5] at hpre
      have hc:c'=c:=by
       obtain ⟨t,ht⟩:=hpre
       simp at ht
       exact ht.1
      subst hc
      rw[a3] at b3
      injection b3 with b3
      injection b3 with b3
      exact ⟨b3.symm,by rw[a5,b5]⟩
   have hlive:∀ x∈M,x.id < n∧x.j < args.length:=fun x hx=>by
    obtain ⟨i,e1,h1⟩:=hM x hx
    rcases h1 with ⟨r,c,row,_,_,e2,_⟩ | ⟨k,rows,v,md,o,_,e2,_,_,p1⟩
    ·obtain ⟨u',hu',hr'⟩:=relL_at (c:=0) hvs e2
     have:=(List.getElem?_eq_some_iff.1 e2).1
     exact ⟨hr'.1,by omega⟩
    ·obtain ⟨u',hu',hr'⟩:=relL_at (c:=0) hvs e2
     have:=(List.getElem?_eq_some_iff.1 e2).1
     refine ⟨?_,by omega⟩
     rcases p1 with ⟨a1,_⟩ | ⟨cs,ks,c,os,a1,a2,a3,_⟩
     ·rw[a1] at hr'
      exact hr'.1
     ·rw[a1] at hr'
      obtain ⟨us2,hu2,hr2⟩:=hr'
      obtain ⟨x',hx',hr3⟩:=relL_at (c:=0) hr2 a3
      exact hr3.1
   have hmu:∀ x∈M,(∀ q,muOf M (x.j,x.p++q)=some (x.id,q))∧x.id < n∧x.j < args.length:=fun x hx=>by
    refine ⟨fun q=>?_,hlive x hx⟩
    unfold muOf
    cases hf:M.find? (fun y=>y.j == (x.j,x.p++q).1&&y.p.isPrefixOf (x.j,x.p++q).2) with
    | none=>exact absurd (List.find?_eq_none.1 hf x hx) (by simp)
    | some y=>
     have hy:=List.mem_of_find?_eq_some hf
     have hyj:=List.find?_some hf
     simp at hyj
     obtain ⟨f1,f2⟩:=hsame x hx y hy q hyj.1 hyj.2
     show some (y.id,_)=some (x.id,q)
     rw[f1,f2]
     simp
   have hmu2:∀ K k,muOf M K=some k→k.1 < n:=fun K k e=>by
    unfold muOf at e
    cases hf:M.find? (fun y=>y.j == K.1&&y.p.isPrefixOf K.2) with
    | none=>rw[hf] at e;cases e
    | some y=>
     rw[hf] at e
     injection e with e
     rw[←e]
     exact (hlive y (List.mem_of_find?_eq_some hf)).1
   have hkey:∀ b K,κr b=some (.key K)→κ3 b=backG args.length (muOf M) g (κr b):=fun b K hb=>by
    simp only[κ3,afterG]
    by_cases hlt:b < w.heap.size
    ·rw[if_pos hlt]
     have hc:∃ K',callG κ T (F++V) b=some (.key K'):=by
      cases e:callG κ T (F++V) b with
      | none=>rw[S.none_ b hlt e] at hb;cases hb
      | some g'=>cases g' with
       | imm=>rw[S.imm b e] at hb;cases hb
       | key K'=>exact ⟨K',rfl⟩
     obtain ⟨K',hc⟩:=hc
     unfold callG at hc
     split at hc
     ·rename_i K0 hK0
      split at hc
      ·rename_i x hx
       rw[hK0]
       simp only
       rw[hx]
      ·split at hc<;>cases hc
     ·rename_i hne
      exact absurd hc (hne _)
    ·rw[if_neg hlt]
   have himm:V=[]→ImmMap w' w' κr κ3:=fun hV b hb=>⟨by
    simp only[κ3,afterG]
    by_cases hlt:b < w.heap.size
    ·rw[if_pos hlt]
     cases e:κ b with
     | none=>
      have:callG κ T (F++V) b=none:=by simp[callG,e]
      rw[S.none_ b hlt this] at hb;cases hb
     | some g'=>cases g' with
      | imm=>rfl
      | key K=>
       simp only
       split
       ·rw[hb];rfl
       ·rename_i hf
        by_cases hF:K.1∈F
        ·rw[if_pos hF]
        ·have:callG κ T (F++V) b=none:=by simp[callG,e,hf,hV,hF]
         rw[S.none_ b hlt this] at hb;cases hb
    ·rw[if_neg hlt,hb];rfl,rfl⟩
   have hVv:vis=[]→V=[]:=fun e=>by
    cases V with
    | nil=>rfl
    | cons i V=>have:=CL.lent i (List.mem_cons_self ..);rw[e] at this;simp at this
   have hstay:∀ i,h2 i≠none→∀ b q,κ b=some (.key (i,q))→κ3 b=some (.key (i,q))∧w'.heap[b]?=w.heap[b]?:=fun i hi b q hb=>by
    have hlt:=R.low b _ hb
    have hT:i∉T.map Prod.fst:=fun hm=>by
     obtain ⟨x,hx,e⟩:=List.mem_map.1 hm
     exact hi (by rw[←e];exact (CL.tk x hx).2.1)
    have hF:i∉F:=fun hm=>hi (CL.fz i hm).2
    have hfn:=find_none hT
    refine ⟨?_,S.kept b hlt fun K e=>?_⟩
    ·simp only[κ3,afterG]
     rw[if_pos hlt,hb]
     simp only
     rw[hfn]
     simp only
     rw[if_neg hF]
    ·simp only[callG,hb,hfn] at e
     split at e<;>cases e
   have hStp:Stp κ w κ3 w':=⟨S.os,S.tape,S.output,S.size,fun b hb hk=>S.kept b hb fun K e=>(by
     cases eb:κ b with
     | none=>simp[callG,eb] at e
     | some g'=>cases g' with
      | imm=>simp[callG,eb] at e
      | key K'=>exact hk K' eb),
    fun b hb=>(by
     have hlt:=R.low b _ hb
     simp only[κ3,afterG]
     rw[if_pos hlt,hb]),
    fun b hlt hb=>(by
     simp only[κ3,afterG]
     rw[if_pos hlt,hb]),S.cells⟩
   have hI:ImmMap w w' κ κ3:=hStp.immMap R.low
   have hbe:V=[]∨(noRo res∧noRoO outs):=by
    cases vis with
    | nil=>exact .inl (hVv rfl)
    | cons i r=>exact .inr hvis
   obtain ⟨m',NW,hv'⟩:=hopen w' w' κr κ3 m (args.length,[]) u hres (hbe.imp (fun e=>himm e) fun e=>e.1) (fun q b k hb hg=>by
    refine ⟨?_,rfl⟩
    rw[hkey b _ hb,hb]
    simp[backG,hg])
   have hmut:∀ x∈M,shp (some x.blk)=shp (h x.id)∧(∀ kl,shp (h x.id)=some (some kl)→∀ k N,HasBlk w κ (m x.id) x.id k N→HasBlk w' κ3 (m x.id) x.id k N)∧∀ L m',m' x.id=m x.id→relBlk w' κ3 m' L x.id x.blk:=fun x hx=>by
    obtain ⟨i,e1,h1⟩:=hM x hx
    have hij:x.j=i:=by omega
    have hmx:=hmu x hx
    rw[hij] at hmx
    have hK:KeyMap w' w' κr κ3 (some (i,x.p)) (some (x.id,[])):=⟨_,rfl,fun q b hb=>⟨by
     have hb:κr b=some (.key (i,x.p++q)):=hb
     rw[hkey b _ hb,hb]
     simp[backG,hmx.1,hmx.2.2],rfl⟩⟩
    rcases h1 with ⟨r,c,row,hp0,hbk,e2,e3,e4⟩ | ⟨k,rows,v,md,o,hbk,e2,e3,e4,hent⟩
    ·rw[hp0] at hK
     obtain ⟨hc0,row0,hs0,hb0⟩:=hbox i x.id r c e2 e3
     subst hc0
     refine ⟨by rw[hbk,hb0];rfl,fun kl hkl=>by rw[hb0] at hkl;simp[shp] at hkl,fun L m2 hm2=>?_⟩
     rw[hbk]
     obtain ⟨u',hu',hr'⟩:=relL_at (c:=0) hvs e2
     have hx':=ptr_addr hr' hb0
     have ho:=outs_rel houts e4 hu'
     simp only[Nat.zero_add] at ho
     obtain ⟨b,off,C',t,fr,hu2,hb,hfr,hown,hrow⟩:=ho
     rw[hx'] at hu2
     injection hu2 with hu2
     injection hu2 with hu2
     injection hu2 with hu3 hu4
     simp only[cellOff,Nat.add_zero] at hu4
     obtain ⟨_,h00,hsp,C0,t0,fr0,hw0,hfr0,hκ0,hrow0⟩:=R.blk x.id _ hb0
     have ho2:=hK.owns hown
     refine ⟨fun y hy=>by simp at hy,by rw[hm2];exact hsp,C',t,fr,?_⟩
     rw[hm2,hu3,hu4]
     refine ⟨hb,hfr,by simpa [owns] using ho2.1,?_⟩
     have hnr:RoOk w' w' κr κ3 (noRoL row):=hbe.imp (fun e=>himm e) fun e=>noRoO_get e.2 e4
     exact relHRow_or hnr hK hrow
    ·obtain ⟨u0,hu0,hr0⟩:=relL_at (c:=0) hvs e2
     have ho0:=outs_rel houts e4 hu0
     simp only[Nat.zero_add] at ho0
     have hcell:∃ u',EntI v md u0 x.p x.id k u'∧relV w κ (liveV w κ m n h) none (.own x.id) u'∧relV w' κr noL (some (i,x.p)) (.ow k rows) u'∧(noRoO outs→noRoRows rows):=by
      rcases hent with ⟨a1,a2,a3,a4⟩ | ⟨cs,ks,c,os,a1,a2,a3,a4,a5,a6,a7⟩
      ·subst a1;subst a4
       refine ⟨u0,.inl ⟨rfl,a2,a3,rfl⟩,hr0,by rw[a3];exact ho0,fun e=>noRoO_get e e4⟩
      ·subst a1;subst a6
       obtain ⟨us2,hu2,hr2⟩:=hr0
       obtain ⟨us3,hu3,hr3⟩:=ho0
       rw[hu2] at hu3
       injection hu3 with hu3
       have hu3:=List.toArray_inj hu3
       subst hu3
       obtain ⟨x',hx',hr4⟩:=relL_at (c:=0) hr2 a3
       obtain ⟨g1,g2⟩:=relL_get hr3
       have hr5:=g2 c _ x' a7 hx'
       refine ⟨x',.inr ⟨cs,ks,c,us2,rfl,a2,a3,a4,a5,hu2,hx'⟩,hr4,by rw[a5];simpa [kid] using hr5,fun e=>?_⟩
       have hall:∀ {l:List AV} {i:Nat} {v:AV},noRoL l→l[i]?=some v→noRo v:=by
        intro l
        induction l with
        | nil=>intro i v _ hi;simp at hi
        | cons y l ih=>
         intro i v hn hi
         cases i with
         | zero=>simp at hi;subst hi;exact hn.1
         | succ i=>exact ih hn.2 (by simpa using hi)
       exact hall (show noRoL os from noRoO_get e e4) a7
     obtain ⟨u',hE,hr',ho,hnoro⟩:=hcell
     obtain ⟨_,_,hlv⟩:=hr'
     obtain ⟨hid1,hid2,⟨rs0,hs0,hb0⟩,hno0⟩:=hsl i v md u0 x.p x.id k u' e2 e3 hu0 hE
     rw[hb0] at hlv
     simp only[shp] at hlv
     obtain ⟨A,cap,hu2,hlc,hcap⟩:=hlv
     obtain ⟨A',cap',hu3,hlc',hcap'⟩:=ho
     rw[hu2] at hu3
     injection hu3 with f1 f2 f3
     subst f1;subst f3
     have hnV:x.id∉V:=fun hm=>alive_mem hal x.id (CL.lent x.id hm) hid2
     refine ⟨by rw[hbk,hb0];simp[shp,f2],fun kl _ k9 q hq=>?_,fun L m2 hm2=>?_⟩
     ·obtain ⟨p1,C,t,fr,p2,p3,p4,p5⟩:=hq
      by_cases h0:cap=0
      ·subst h0
       obtain ⟨hnT,hnF⟩:=hno0 ⟨A,rs0.length,hu2⟩
       have hlt:=R.low _ _ p4
       have hfn:=find_none hnT
       have hκ3:κ3 (m x.id).block=some (.key (x.id,[])):=by
        simp only[κ3,afterG]
        rw[if_pos hlt,p4]
        simp only
        rw[hfn]
        simp only
        rw[if_neg hnF]
       have hkept:w'.heap[(m x.id).block]?=w.heap[(m x.id).block]?:=S.kept _ hlt fun K e=>by
        simp only[callG,p4,hfn] at e
        split at e<;>cases e
       exact ⟨p1,C,t,fr,hkept.trans p2,p3,hκ3,p5⟩
      ·rcases hcap' with e | ⟨b,off,C2,t2,fr2,g1,g2,g3,g4,g5,g6⟩
       ·exact absurd e h0
       ·rcases hcap with e | ⟨g7,_⟩
        ·exact absurd e h0
        ·rw[g7] at g1
         injection g1 with g1
         obtain ⟨C3,g8,g9⟩:=S.cells _ C t fr p2
         rw[g1] at g8 p1 p5⊢
         simp only at g8
         rw[g2] at g8
         injection g8 with g8
         injection g8 with g8 g8' g8''
         subst g8;subst g8';subst g8''
         exact ⟨rfl,C2,t2,fr2,g2,⟨g3.1,fun hk9=>by have:=p3.2 hk9;omega⟩,by simpa [owns] using (hK.owns g4).1,by omega⟩
     ·rw[hbk]
      rcases hcap' with e | ⟨b,off,C2,t2,fr2,g1,g2,g3,g4,g5,g6⟩
      ·left
       exact List.eq_nil_of_length_eq_zero (by omega)
      ·by_cases h0:cap=0
       ·left
        exact List.eq_nil_of_length_eq_zero (by omega)
       ·rcases hcap with e | ⟨g7,_⟩
        ·exact absurd e h0
        ·rw[g7] at g1
         injection g1 with g1
         right
         rw[hm2,g1]
         have hnr:RoOk w' w' κr κ3 (noRoRows rows):=hbe.imp (fun e=>himm e) fun e=>hnoro e.2
         exact ⟨rfl,C2,t2,fr2,g2,g3,by simpa [owns] using (hK.owns g4).1,relHRs_or hnr hK g6⟩
   have hL:∀ v u,liveV w κ m n h v u→liveV w' κ3 m' n' h' v u:=liveV_keep hnn fun i hi=>by
    have e1:h' i=h3 i:=NW.old i (by omega)
    rcases hh3 i with ⟨x,hx,e,e2⟩ | e
    ·right
     obtain ⟨q1,q2,_⟩:=hmut x hx
     rw[e] at q1 q2
     exact ⟨by rw[e1,e2,q1],NW.m_ i hi,q2⟩
    ·cases e3:h2 i with
     | none=>left;rw[e1,e,e3]
     | some B=>
      right
      have hne:h2 i≠none:=by rw[e3];simp
      have hhi:h i=some B:=CL.sub.some e3
      exact ⟨by rw[e1,e,e3,hhi],NW.m_ i hi,fun kl hkl k N hk=>hk.move fun hx=>hstay i hne _ [] hx⟩
   have hblk:∀ id b,h' id=some b→id < n'∧relBlk w' κ3 m' (liveV w' κ3 m' n' h') id b:=fun i B hB=>by
    by_cases hin:n≤i∧i < n'
    ·obtain ⟨B',e1,e2⟩:=NW.blk i hin.1 hin.2
     rw[hB] at e1
     injection e1 with e1
     subst e1
     exact ⟨hin.2,e2 _⟩
    ·have e1:=NW.old i hin
     rw[hB] at e1
     rcases hh3 i with ⟨x,hx,e,e2⟩ | e
     ·rw[e2] at e1
      injection e1 with e1
      subst e1
      subst e
      have hlt:=(hmu x hx).2.1
      exact ⟨by omega,(hmut x hx).2.2 _ m' (NW.m_ _ hlt)⟩
     ·rw[e] at e1
      have hne:h2 i≠none:=by rw[←e1];simp
      have hhi:h i=some B:=CL.sub.some e1.symm
      obtain ⟨b1,b2⟩:=R.blk i B hhi
      exact ⟨by omega,relBlk_move hI hL ⟨_,rfl,fun q b hb=>hstay i hne b q hb⟩ (NW.m_ i b1) b2⟩
   refine ⟨_,n',v',h',κ3,m',u,hk,hnn,rfl,hv',?_,hStp,fun hf j hj=>?_,fun j hj _=>NW.m_ j hj,hL⟩
   ·refine R.move hI hL hblk (fun b g' hb=>?_) (fun b id p hb=>?_)
    ·simp only[κ3,afterG] at hb
     by_cases hlt:b < w.heap.size
     ·exact Nat.lt_of_lt_of_le hlt S.size
     ·rw[if_neg hlt] at hb
      cases e:κr b with
      | none=>rw[e] at hb;cases hb
      | some g2=>exact hlow' b g2 e
    ·have hback:∀ x,backG args.length (muOf M) g x=some (.key (id,p))→id < n':=fun x hb=>by
      unfold backG at hb
      split at hb
      ·split at hb
       ·split at hb
        ·rename_i hmu3
         injection hb with hb
         injection hb with hb
         subst hb
         have:=hmu2 _ _ hmu3
         omega
        ·cases hb
       ·split at hb
        ·rename_i k hgk
         injection hb with hb
         injection hb with hb
         subst hb
         exact (hg _ _ hgk).2
        ·cases hb
      ·cases hb
      ·cases hb
     simp only[κ3,afterG] at hb
     by_cases hlt:b < w.heap.size
     ·rw[if_pos hlt] at hb
      split at hb
      ·rename_i K0 hK0
       split at hb
       ·exact hback _ hb
       ·split at hb
        ·cases hb
        ·injection hb with hb
         injection hb with hb
         subst hb
         have:=R.fresh b _ _ hK0
         omega
      ·rename_i hne
       exact absurd hb (hne _)
     ·rw[if_neg hlt] at hb
      exact hback _ hb
   ·have hro':ms.all isRo=true:=by simpa using hf
    rw[NW.old j (by omega)]
    rcases hh3 j with ⟨x,hx,e,e2⟩ | e
    ·obtain ⟨i,e1,h1⟩:=hM x hx
     rcases h1 with ⟨r,c,row,_,_,_,e3,_⟩ | ⟨k,rows,v,md,o,_,_,e3,_,hent⟩
     ·have:=List.all_eq_true.1 hro' _ (List.mem_of_getElem? e3)
      simp[isRo] at this
     ·have:=List.all_eq_true.1 hro' _ (List.mem_of_getElem? e3)
      rcases hent with ⟨_,a2,_⟩ | ⟨_,_,_,_,_,a2,_⟩<;>(rw[a2] at this;simp[isRo] at this)
    ·rw[e,hro hro']
end
end Go.Proofs.VI
end
