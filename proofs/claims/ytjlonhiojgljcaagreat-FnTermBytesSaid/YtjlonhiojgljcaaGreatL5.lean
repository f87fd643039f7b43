/- VI: values, a private heap for each call, and what code comes to; part 5. -/
import Derived.Test.YtjlonhiojgljcaaGreatL4
import Derived.Below
import Derived.Carry
import Derived.OpenShut
import Derived.ChangeSame
import Derived.ChangeMaps5
section
set_option linter.unusedVariables false
set_option linter.unusedSimpArgs false
namespace Go.Proofs.VI
open Go Go.ChangeShapes Go.WideShapes Go.RowKit
section
variable {P:Program} {w w' w0:World} {κ κ' κ0 κ3 κc:Gh} {tt:TypeId→Option TI}
inductive TT where
 | nil
 | node (k:Nat) (v:TI) (l r:TT)
def TT.get:TT→TypeId→Option TI
 | .nil,_=>none
 | .node k v l r,t=>bif Nat.beq t k then some v else bif Nat.blt t k then l.get t else r.get t
def TT.all (f:TypeId→TI→Bool):TT→Bool
 | .nil=>true
 | .node k v l r=>f k v&&(l.all f&&r.all f)
theorem TT.all_get {f:TypeId→TI→Bool}:∀ {T:TT},T.all f=true→∀ {t:TypeId} {i:TI},T.get t=some i→f t i=true
 | .nil,_,t,i,h=>by cases h
 | .node k v l r,ha,t,i,h=>by
  simp only[TT.all,Bool.and_eq_true] at ha
  simp only[TT.get] at h
  cases hb:Nat.beq t k with
  | true=>
   rw[hb] at h
   have:=Nat.eq_of_beq_eq_true hb
   subst this
   injection h with h
   subst h
   exact ha.1
  | false=>
   rw[hb] at h
   cases hc:Nat.blt t k with
   | true=>rw[hc] at h;exact TT.all_get ha.2.1 h
   | false=>rw[hc] at h;exact TT.all_get ha.2.2 h
def infoB (P:Program) (t:TypeId) (i:TI):Bool:=match P.info? t with
 | some f=>Nat.beq f.size i.size&&Nat.beq f.bytes i.bytes&&(match f.zero with | some z=>constsB i.zero z.cells.toList&&Nat.beq z.cells.size i.size | none=>false)&&Nat.beq i.zero.length i.size&&!Nat.beq i.size 0&&!Nat.beq i.bytes 0
 | none=>false
def flatTB (P:Program) (e:EK) (t:TypeId):Bool:=match e,P.underlying t with
 | .int,some (.int _)=>true
 | .str,some .string=>true
 | .bool,some .bool=>true
 | _,_=>false
def flatFB (P:Program) (c:Nat) (es:List EK) (fs:List Field):Bool:=match es,fs with
 | [],[]=>true
 | e::es,f::fs=>!(f.name == "_")&&Nat.beq f.offset c&&flatTB P e f.type&&flatFB P (c+1) es fs
 | _,_=>false
def flatB (P:Program) (t:TypeId) (i:TI):Bool:=match i.eq with
 | []=>true
 | es=>!P.stoodInHeld t&&!P.eqGuardType P.depth t&&(match P.underlying t with | some (.struct fields)=>flatFB P 0 es fields.toList | _=>false)
def fieldsB (P:Program):List Field→List (Nat×TypeId)→Bool
 | [],[]=>true
 | f::fs,(o,t)::l=>Nat.beq f.offset o&&Nat.beq f.type t&&(match P.info? f.type with | some fi=>!Nat.beq fi.size 0 | none=>false)&&fieldsB P fs l
 | _,_=>false
def kindB (P:Program) (t:TypeId) (i:TI):Bool:=match i.kind,P.underlying t with
 | .int k,some (.int k')=>decide (k=k')
 | .bool,some .bool=>true
 | .str,some .string=>true
 | .slice e,some (.slice e')=>Nat.beq e e'
 | .struct fs,some (.struct fields)=>fieldsB P fields.toList fs
 | .ptr,some (.pointer _)=>true
 | .func,some (.func _ _ _)=>true
 | .other,some d=>(match d with | .struct _=>false | .array _ _=>false | _=>true)
 | _,_=>false
def typesB (P:Program) (T:TT):Bool:=T.all fun t i=>infoB P t i&&(flatB P t i&&kindB P t i)
theorem flatTB_sound {e:EK} {t:TypeId} (h:flatTB P e t=true):flatT P e t:=by
 unfold flatTB at h
 split at h
 ·exact ⟨_,by assumption⟩
 ·assumption
 ·assumption
 ·cases h
theorem flatFB_sound:∀ {es:List EK} {fs:List Field} {c:Nat},flatFB P c es fs=true→flatF P c es fs
 | [],[],c,h=>rfl
 | [],f::fs,c,h=>by cases h
 | e::es,[],c,h=>by cases h
 | e::es,f::fs,c,h=>by
  simp only[flatFB,Bool.and_eq_true,Bool.not_eq_true',beq_eq_false_iff_ne] at h
  exact ⟨h.1.1.1,Nat.eq_of_beq_eq_true h.1.1.2,flatTB_sound h.1.2,flatFB_sound h.2⟩
theorem fieldsB_sound:∀ {fs:List Field} {l:List (Nat×TypeId)},fieldsB P fs l=true→fs.map (fun f=>(f.offset,f.type))=l∧∀ f∈fs,∃ fi,P.info? f.type=some fi∧fi.size≠0
 | [],[],h=>⟨rfl,fun f hf=>by simp at hf⟩
 | [],x::l,h=>by cases h
 | f::fs,[],h=>by cases h
 | f::fs,(o,t)::l,h=>by
  simp only[fieldsB,Bool.and_eq_true] at h
  obtain ⟨h1,h2⟩:=fieldsB_sound h.2
  refine ⟨by rw[List.map_cons,h1,Nat.eq_of_beq_eq_true h.1.1.1,Nat.eq_of_beq_eq_true h.1.1.2],fun g hg=>?_⟩
  rcases List.mem_cons.1 hg with e | hg
  ·subst e
   have h3:=h.1.2
   split at h3
   ·rename_i fi hfi
    exact ⟨fi,hfi,fun e=>by rw[e] at h3;cases h3⟩
   ·cases h3
  ·exact h2 g hg
theorem tok_of {T:TT} (h:typesB P T=true):TOk P T.get:=by
 have hall:∀ t i,T.get t=some i→infoB P t i=true∧flatB P t i=true∧kindB P t i=true:=fun t i ht=>by
  have:=TT.all_get h ht
  simpa [Bool.and_eq_true] using this
 refine ⟨fun t i ht=>?_,fun t i ht he=>?_,fun t i ht=>?_⟩
 ·have h1:=(hall t i ht).1
  unfold infoB at h1
  split at h1
  ·rename_i f hf
   simp only[Bool.and_eq_true,Bool.not_eq_true'] at h1
   obtain ⟨⟨⟨⟨⟨a1,a2⟩,a3⟩,a4⟩,a5⟩,a6⟩:=h1
   split at a3
   ·rename_i z hz
    simp only[Bool.and_eq_true] at a3
    exact ⟨f,z,hf,Nat.eq_of_beq_eq_true a1,Nat.eq_of_beq_eq_true a2,hz,a3.1,Nat.eq_of_beq_eq_true a4,fun e=>(by rw[e] at a5;cases a5),fun e=>(by rw[e] at a6;cases a6),Nat.eq_of_beq_eq_true a3.2⟩
   ·cases a3
  ·cases h1
 ·have h1:=(hall t i ht).2.1
  unfold flatB at h1
  split at h1
  ·rename_i e;exact absurd e he
  ·simp only[Bool.and_eq_true,Bool.not_eq_true'] at h1
   refine ⟨h1.1.1,h1.1.2,?_⟩
   have h2:=h1.2
   split at h2
   ·rename_i fields hu;exact ⟨fields,hu,flatFB_sound h2⟩
   ·cases h2
 ·have h1:=(hall t i ht).2.2
  unfold kindB at h1
  cases hk:i.kind<;>cases hu:P.underlying t<;>rw[hk,hu] at h1<;>(try simp only at h1)
  case int.some k d=>cases d<;>first | (cases h1;done) | (simp only;rw[of_decide_eq_true h1])
  case bool.some d=>cases d<;>first | (cases h1;done) | rfl
  case str.some d=>cases d<;>first | (cases h1;done) | rfl
  case slice.some e d=>cases d<;>first | (cases h1;done) | (simp only;rw[Nat.eq_of_beq_eq_true h1])
  case struct.some fs d=>
   cases d<;>first
    | (cases h1;done)
    | (obtain ⟨h2,h3⟩:=fieldsB_sound h1
       exact ⟨_, rfl, h2, h3⟩)
  case ptr.some d=>cases d<;>first | (cases h1;done) | exact ⟨_,rfl⟩
  case func.some d=>cases d<;>first | (cases h1;done) | exact ⟨_,_,_,rfl⟩
  case other.some d=>
   refine ⟨by simp,fun f e=>?_,fun n e e2=>?_⟩
   ·injection e with e;subst e;cases h1
   ·injection e2 with e2;subst e2;cases h1
  all_goals cases h1
inductive HasTy (tt:TypeId→Option TI):TypeId→List AV→Prop
 | int {t:TypeId} {i:TI} {k:IntKind} {n:Int}:tt t=some i→i.kind= .int k→(Lit.int k n).wf=true→HasTy tt t [.int k n]
 | bool {t:TypeId} {i:TI} {b:Bool}:tt t=some i→i.kind= .bool→HasTy tt t [.bool b]
 | str {t:TypeId} {i:TI} {s:ByteArray}:tt t=some i→i.kind= .str→s.size≤maxLen→HasTy tt t [.str s]
 | slice {t:TypeId} {i:TI} {e:TypeId} {ie:TI} {rows:List (List AV)}:tt t=some i→i.kind= .slice e→tt e=some ie→rows.length≤maxLen→(∀ row∈rows,HasTy tt e row)→HasTy tt t [.ro ie.size rows]
 | struct {t:TypeId} {i:TI} {fs:List (Nat×TypeId)} {cells:List AV}:tt t=some i→i.kind= .struct fs→cells.length=i.size→
   (∀ (j off:Nat) (ft:TypeId),fs[j]?=some (off,ft)→tt ft≠none)→
   (∀ (j off:Nat) (ft:TypeId) (i':TI),fs[j]?=some (off,ft)→tt ft=some i'→HasTy tt ft ((cells.drop off).take i'.size))→HasTy tt t cells
def readB (tt:TypeId→Option TI) (S:List TypeId):Bool:=S.all fun t=>match tt t with
 | some i=>(match i.kind with
  | .int _=>true
  | .bool=>true
  | .str=>true
  | .slice e=>mem e S
  | .struct fs=>fs.all (fun x=>mem x.2 S)&&contig 0 fs i.size tt
  | _=>false)
 | none=>false
where
 contig (off:Nat) (fs:List (Nat×TypeId)) (size:Nat) (tt:TypeId→Option TI):Bool:=match fs with
  | []=>Nat.beq off size
  | (o,t)::fs=>Nat.beq o off&&(match tt t with | some i=>contig (off+i.size) fs size tt | none=>false)
theorem list_choice {α:Type} {Q:Nat→α→Prop}:∀ {n:Nat},(∀ i,i < n→∃ x,Q i x)→∃ l:List α,l.length=n∧∀ (i:Nat) (x:α),l[i]?=some x→Q i x
 | 0,h=>⟨[],rfl,fun i x hx=>by simp at hx⟩
 | n+1,h=>by
  obtain ⟨l,h1,h2⟩:=list_choice (n:=n) (Q:=Q) fun i hi=>h i (by omega)
  obtain ⟨x,hx⟩:=h n (by omega)
  refine ⟨l++[x],by simp[h1],fun i y hy=>?_⟩
  by_cases hi:i < l.length
  ·rw[List.getElem?_append_left hi] at hy
   exact h2 i y hy
  ·rw[List.getElem?_append_right (by omega)] at hy
   have:i=n:=by
    have:=(List.getElem?_eq_some_iff.1 hy).1
    simp at this
    omega
   subst this
   have e:i - l.length=0:=by omega
   rw[e] at hy
   simp at hy
   rw[←hy];exact hx
def immB (w:World):Gh:=fun b=>if b < w.heap.size then some .imm else none
theorem cellsOf_size (T:TOk P tt) {t:TypeId} {i:TI} (ht:tt t=some i):P.cellsOf t=i.size:=by
 obtain ⟨f,z,h1,h2,_⟩:=T.info t i ht
 simp[Program.cellsOf,h1,h2]
def CellsAre (w:World) (vs:List AV) (cs:List Value):Prop:=vs.length=cs.length∧∀ (j:Nat) (v:AV) (u:Value),vs[j]?=some v→cs[j]?=some u→∀ L K,relV w (immB w) L K v u
theorem CellsAre.one {v:AV} {u:Value} (h:∀ L K,relV w (immB w) L K v u):CellsAre w [v] [u]:=⟨rfl,fun j v' u' hv hu=>by
 cases j with
 | zero=>simp at hv hu;subst hv;subst hu;exact h
 | succ j=>simp at hv⟩
theorem contig_build (T:TOk P tt) {w:World}:∀ {fs:List (Nat×TypeId)} {off size:Nat} {cs:List Value},readB.contig off fs size tt=true→cs.length=size→off≤size→
  (∀ (j o:Nat) (ft:TypeId),fs[j]?=some (o,ft)→∀ i',tt ft=some i'→∃ vs,HasTy tt ft vs∧CellsAre w vs ((cs.drop o).take i'.size))→
  ∃ vs,CellsAre w vs (cs.drop off)∧∀ (j o:Nat) (ft:TypeId),fs[j]?=some (o,ft)→off≤o∧∃ i',tt ft=some i'∧o+i'.size≤size∧HasTy tt ft ((vs.drop (o - off)).take i'.size)
 | [],off,size,cs,hc,hl,ho,hf=>by
  have:off=size:=Nat.eq_of_beq_eq_true hc
  subst this
  refine ⟨[],⟨by simp[hl],fun j v u hv=>by simp at hv⟩,fun j o ft h=>by simp at h⟩
 | (o,t)::fs,off,size,cs,hc,hl,ho,hf=>by
  simp only[readB.contig,Bool.and_eq_true] at hc
  obtain ⟨e,hc⟩:=hc
  have e:=Nat.eq_of_beq_eq_true e
  subst e
  split at hc
  ·rename_i i hi
   obtain ⟨vs,h1,h2,h3⟩:=hf 0 o t rfl i hi
   have hle:∀ {fs:List (Nat×TypeId)} {off:Nat},readB.contig off fs size tt=true→off≤size:=fun {fs}=>by
    induction fs with
    | nil=>intro off h;exact Nat.le_of_eq (Nat.eq_of_beq_eq_true h)
    | cons x fs ih=>
     intro off h
     obtain ⟨o',t'⟩:=x
     simp only[readB.contig,Bool.and_eq_true] at h
     have h5:=h.2
     split at h5
     ·have:=ih h5;omega
     ·cases h5
   have hle':=hle hc
   obtain ⟨vs2,⟨g1,g2⟩,g3⟩:=contig_build T (cs:=cs) hc hl hle' fun j o' ft hj i' hi'=>hf (j+1) o' ft (by simpa using hj) i' hi'
   have hvl:vs.length=i.size:=by rw[h2];simp;omega
   refine ⟨vs++vs2,⟨by simp at g1⊢;omega,fun j v u hv hu=>?_⟩,fun j o' ft hj=>?_⟩
   ·by_cases hlt:j < vs.length
    ·rw[List.getElem?_append_left hlt] at hv
     refine h3 j v u hv ?_
     rw[List.getElem?_take,if_pos (by omega)]
     exact hu
    ·rw[List.getElem?_append_right (by omega)] at hv
     refine g2 (j - vs.length) v u hv ?_
     rw[List.getElem?_drop] at hu⊢
     rw[show o+i.size+(j - vs.length)=o+j by omega]
     exact hu
   ·cases j with
    | zero=>
     simp at hj
     obtain ⟨rfl,rfl⟩:=hj
     refine ⟨Nat.le_refl _,i,hi,hle',?_⟩
     rw[Nat.sub_self,List.drop_zero,←hvl,List.take_left']
     exact h1
     rfl
    | succ j=>
     obtain ⟨p1,i',p2,p3,p4⟩:=g3 j o' ft (by simpa using hj)
     refine ⟨by omega,i',p2,p3,?_⟩
     rw[List.drop_append,List.drop_eq_nil_of_le (by omega),List.nil_append,show o' - o - vs.length=o' - (o+i.size) by omega]
     exact p4
  ·cases hc
theorem cell_at {a:Addr} {n:Nat} {u:Value} (h:w.cell? (a.add n)=some u):∃ C t fr,w.heap[a.block]?=some (.cells C t fr)∧(n=0→a.spot=none)∧C[a.off+n]?=some u:=by
 unfold World.cell? at h
 have hb:(a.add n).block=a.block:=by unfold Addr.add;split<;>rfl
 rw[hb] at h
 split at h
 ·rename_i C t fr hw
  split at h
  ·cases h
  ·rename_i hs
   refine ⟨C,t,fr,hw,fun e=>?_,?_⟩
   ·subst e
    simpa [Addr.add] using hs
   ·have ho:(a.add n).off=a.off+n:=by unfold Addr.add;split<;>simp_all
    rw[←ho];exact h
 ·cases h
theorem trod_rel (T:TOk P tt) {S:List TypeId} (hS:readB tt S=true) {H:Type} {enc:TypeId×Value→H} {sp:Nat→Bool}:∀ (fuel:Nat) (t:TypeId) (cs:List Value) (x:DataW H×List MemPlace),t∈S→DataW.trod enc P w 0 sp true fuel t cs=some x→∃ vs,HasTy tt t vs∧CellsAre w vs cs:=by
 intro fuel
 induction fuel with
 | zero=>intro t cs x ht h;simp[DataW.trod] at h
 | succ fuel ih=>
  intro t cs x ht h
  have h1:=List.all_eq_true.1 hS t ht
  split at h1
  ·rename_i i hi
   have hu:=T.kind t i hi
   split at h1
   ·rename_i k hk
    rw[hk] at hu
    obtain ⟨n,rfl,_,hwf⟩:=DataW.trod_int hu h
    exact ⟨_,.int hi hk hwf,.one fun L K=>rfl⟩
   ·rename_i hk
    rw[hk] at hu
    obtain ⟨b,rfl,_⟩:=DataW.trod_bool hu h
    exact ⟨_,.bool (b:=b) hi hk,.one fun L K=>rfl⟩
   ·rename_i hk
    rw[hk] at hu
    obtain ⟨s,rfl,_,hs⟩:=DataW.trod_string hu h
    exact ⟨_,.str hi hk hs,.one fun L K=>rfl⟩
   ·rename_i e hk
    rw[hk] at hu
    have he:e∈S:=mem_iff.1 h1
    have h2:=List.all_eq_true.1 hS e he
    cases hie:tt e with
    | none=>rw[hie] at h2;cases h2
    | some ie=>
     have hsz:=cellsOf_size T hie
     obtain ⟨_,_,_,_,_,_,_,_,hne,_⟩:=T.info e ie hie
     rcases DataW.trod_slice hu h with ⟨rfl,_⟩ | ⟨a,len,cap,elems,rest,n',e1,rfl,_,_,hlc,hcm,hel,hget,_,_⟩
     ·refine ⟨[.ro ie.size []],.slice hi hk hie (by simp[maxLen]) (fun row hr=>by simp at hr),.one fun L K=>?_⟩
      exact ⟨none,0,rfl,Nat.le_refl _,.inl rfl⟩
     ·obtain rfl:n'=fuel:=by omega
      have hrow:∀ i,i < len→∃ vs,HasTy tt e vs∧∃ cs',w.cells? 0 (a.add (i*ie.size)) ie.size=some cs'∧CellsAre w vs cs':=fun i hi'=>by
       have:=hget i hi'
       rw[hsz] at this
       rw[List.getElem?_eq_getElem (by omega)] at this
       cases hc:w.cells? 0 (a.add (i*ie.size)) ie.size with
       | none=>rw[hc] at this;cases this
       | some cs'=>
        rw[hc] at this
        obtain ⟨vs,g1,g2⟩:=ih e cs' _ he this
        exact ⟨vs,g1,cs',rfl,g2⟩
      obtain ⟨rows,hl,hrows⟩:=list_choice hrow
      refine ⟨[.ro ie.size rows],.slice hi hk hie (by omega) (fun row hr=>?_),.one fun L K=>?_⟩
      ·obtain ⟨j,hj⟩:=List.getElem?_of_mem hr
       exact (hrows j row hj).1
      ·refine ⟨some a,cap,by rw[hl],by rw[hl];exact hlc,?_⟩
       by_cases h0:rows=[]
       ·exact .inl h0
       ·right
        have hpos:0 < len:=by
         rw[←hl]
         exact List.length_pos_iff.2 h0
        have cell:∀ i,i < len→∀ j,j < ie.size→∃ C t fr u,w.heap[a.block]?=some (.cells C t fr)∧(i*ie.size+j=0→a.spot=none)∧C[a.off+(i*ie.size+j)]?=some u∧∀ cs',w.cells? 0 (a.add (i*ie.size)) ie.size=some cs'→cs'[j]?=some u:=fun i hi' j hj=>by
         obtain ⟨vs,_,cs',hcs,_⟩:=hrow i hi'
         obtain ⟨_,hlen,hcell⟩:=World.cells?_some hcs
         have hlt:j < cs'.length:=by omega
         have hc:=hcell j hj
         rw[List.getElem?_eq_getElem hlt] at hc
         have hadd:(a.add (i*ie.size)).add j=a.add (i*ie.size+j):=by
          unfold Addr.add
          by_cases e1:i*ie.size=0<;>by_cases e2:j=0<;>simp[e1,e2,Nat.add_assoc]
         rw[hadd] at hc
         obtain ⟨C,t,fr,p1,p2,p3⟩:=cell_at hc
         refine ⟨C,t,fr,_,p1,p2,p3,fun cs2 hcs2=>?_⟩
         rw[hcs] at hcs2
         injection hcs2 with hcs2
         subst hcs2
         exact List.getElem?_eq_getElem hlt
        obtain ⟨C,t0,fr,_,hw,hsp,_,_⟩:=cell 0 hpos 0 (by omega)
        have hblk:a.block < w.heap.size:=by
         exact (Array.getElem?_eq_some_iff.1 hw).1
        refine ⟨a.block,a.off,C,t0,fr,by have:=hsp (by simp);cases a;simp_all,hw,by simp[immB,hblk],relRs_mk fun i row hrow'=>?_⟩
        have hi':i < len:=by have:=(List.getElem?_eq_some_iff.1 hrow').1;omega
        obtain ⟨hty,cs',hcs,hrl,hrel⟩:=hrows i row hrow'
        obtain ⟨_,hlen,_⟩:=World.cells?_some hcs
        refine ⟨by omega,relRow_mk fun j v hv=>?_⟩
        have hj:j < ie.size:=by have:=(List.getElem?_eq_some_iff.1 hv).1;omega
        obtain ⟨C',t',fr',u,p1,_,p3,p4⟩:=cell i hi' j hj
        rw[hw] at p1
        injection p1 with p1
        injection p1 with p1
        subst p1
        refine ⟨u,by rw[Nat.add_assoc];exact p3,?_⟩
        exact hrel j v u hv (p4 cs' hcs) noL _
   ·rename_i fs hk
    rw[hk] at hu
    simp only[Bool.and_eq_true,List.all_eq_true] at h1
    obtain ⟨hfs,hcg⟩:=h1
    obtain ⟨fields,hu,hmap,_⟩:=hu
    obtain ⟨xs,n',e1,_,hlen,_,hfield⟩:=DataW.trod_struct hu h
    obtain rfl:n'=fuel:=by omega
    rw[cellsOf_size T hi] at hlen
    obtain ⟨vs,hc,hparts⟩:=contig_build T (w:=w) (cs:=cs) hcg hlen (Nat.zero_le _) fun j o ft hj i' hi'=>by
     rw[←hmap,List.getElem?_map] at hj
     cases hf:fields.toList[j]? with
     | none=>rw[hf] at hj;cases hj
     | some f=>
      rw[hf] at hj
      simp only[Option.map_some,Option.some.injEq,Prod.mk.injEq] at hj
      obtain ⟨rfl,rfl⟩:=hj
      have h3:=hfield j f (by simpa using hf)
      rw[cellsOf_size T hi'] at h3
      have hlt:j < xs.length:=by
       have:=(List.getElem?_eq_some_iff.1 hf).1
       simp at this
       omega
      rw[List.getElem?_eq_getElem hlt] at h3
      exact ih f.type _ _ (mem_iff.1 (hfs (f.offset,f.type) (by rw[←hmap];exact List.mem_map.2 ⟨f,List.mem_of_getElem? hf,rfl⟩))) h3
    refine ⟨vs,.struct hi hk (by rw[hc.1];simp[hlen]) (fun j o ft hj=>?_) (fun j o ft i' hj hi'=>?_),by simpa using hc⟩
    ·obtain ⟨_,i',h5,_⟩:=hparts j o ft hj
     rw[h5];simp
    ·obtain ⟨_,i2,h5,_,h6⟩:=hparts j o ft hj
     rw[hi'] at h5
     injection h5 with h5
     subst h5
     simpa using h6
   ·cases h1
  ·cases h1
def argAV (i:TI) (vs:List AV):AV:=bif isStruct i then .agg vs else vs.headD .und
def HasArgs (tt:TypeId→Option TI):List TypeId→List AV→Prop
 | [],avs=>avs=[]
 | t::ts,avs=>∃ i vs avs',avs=argAV i vs::avs'∧tt t=some i∧HasTy tt t vs∧HasArgs tt ts avs'
theorem arg_rel (T:TOk P tt) {t:TypeId} {i:TI} (hi:tt t=some i) {vs:List AV} (hty:HasTy tt t vs) {v:Value} {r:Reach} {b0:Nat} (hok:Value.okWide P w r b0 t v) (hc:CellsAre w vs v.cells.toList):∀ L K,relV w (immB w) L K (argAV i vs) v:=by
 have hu:=T.kind t i hi
 cases hty with
 | int h1 hk hwf=>
  rw[hi] at h1;injection h1 with h1;subst h1
  rw[hk] at hu
  obtain ⟨n,rfl⟩:=okWide_int hu hok
  intro L K
  have:=hc.2 0 _ (.int _ n) rfl rfl L K
  simpa [argAV,isStruct,hk] using this
 | bool h1 hk=>
  rw[hi] at h1;injection h1 with h1;subst h1
  rw[hk] at hu
  obtain ⟨n,rfl⟩:=okWide_bool hu hok
  intro L K
  have:=hc.2 0 _ (.bool n) rfl rfl L K
  simpa [argAV,isStruct,hk] using this
 | str h1 hk hs=>
  rw[hi] at h1;injection h1 with h1;subst h1
  rw[hk] at hu
  obtain ⟨n,rfl⟩:=okWide_string hu hok
  intro L K
  have:=hc.2 0 _ (.string n) rfl rfl L K
  simpa [argAV,isStruct,hk] using this
 | slice h1 hk he hl hr=>
  rw[hi] at h1;injection h1 with h1;subst h1
  rw[hk] at hu
  obtain ⟨a,len,cap,rfl⟩:=okWide_slice hu hok
  intro L K
  have:=hc.2 0 _ (.slice a len cap) rfl rfl L K
  simpa [argAV,isStruct,hk] using this
 | struct h1 hk hl _ hr=>
  rw[hi] at h1;injection h1 with h1;subst h1
  rw[hk] at hu
  obtain ⟨fields,hu,_⟩:=hu
  obtain ⟨cs,rfl,_⟩:=okWide_struct hu hok
  intro L K
  simp only[argAV,isStruct,hk,cond_true]
  refine ⟨cs.toList,by simp,relL_mk ?_ fun j x y hx hy=>?_⟩
  ·have:=hc.1;simp only[Value.cells] at this;omega
  ·exact hc.2 j x y hx hy L _
theorem args_rel (T:TOk P tt) {S:List TypeId} (hS:readB tt S=true) {H:Type} {enc:TypeId×Value→H} {r:Reach} {b0:Nat}:∀ {ts:List TypeId} {vals:List Value} {ds:List (DataW H)} {ps:List MemPlace} {j:Nat},(∀ t∈ts,t∈S)→DataW.TrodAll enc P w 0 (fun _=>true) true ts vals ds ps→(∀ (j:Nat) t v,ts[j]?=some t→vals[j]?=some v→Value.okWide P w r b0 t v)→
  ∃ avs,HasArgs tt ts avs∧relA w (immB w) j avs vals
 | [],vals,ds,ps,j,hts,h,hok=>by
  obtain ⟨rfl,_,_⟩:=trodAll_nil h
  exact ⟨[],rfl,rfl⟩
 | t::ts,vals,ds,ps,j,hts,h,hok=>by
  obtain ⟨v,vals',d,ds',p,q,rfl,rfl,rfl,⟨fuel,h0⟩,h1⟩:=trodAll_cons h
  obtain ⟨avs,g1,g2⟩:=args_rel (j:=j+1) T hS (fun t ht=>hts t (List.mem_cons_of_mem _ ht)) h1 (fun j t v ht hv=>hok (j+1) t v (by simpa using ht) (by simpa using hv))
  obtain ⟨vs,g3,g4⟩:=trod_rel T hS fuel t _ _ (hts t (List.mem_cons_self ..)) h0
  have hr:=List.all_eq_true.1 hS t (hts t (List.mem_cons_self ..))
  cases hi:tt t with
  | none=>rw[hi] at hr;cases hr
  | some i=>exact ⟨argAV i vs::avs,⟨i,vs,avs,rfl,hi,g3,g1⟩,v,vals',rfl,arg_rel T hi g3 (hok 0 t v rfl rfl) g4 noL _,g2⟩
theorem args_stay {H:Type} {enc:TypeId×Value→H} (hl:laidOutB P=true) {W W':World} (hb:Below W.heap.size W W') {sp:Nat→Bool}:∀ {ts:List TypeId} {vals:List Value} {ds:List (DataW H)} {ps:List MemPlace},(∀ t∈ts,P.readableRec t=true∧t < P.types.size)→DataW.TrodAll enc P W 0 (fun _=>true) true ts vals ds ps→(∀ p∈ps,p.block < W.heap.size)→(∀ p∈ps,sp p.block=true)→DataW.TrodAll enc P W' 0 sp true ts vals ds ps
 | [],vals,ds,ps,hts,h,hlt,hsp=>by
  obtain ⟨rfl,rfl,rfl⟩:=trodAll_nil h
  exact trodAll_mk0
 | t::ts,vals,ds,ps,hts,h,hlt,hsp=>by
  obtain ⟨v,vals',d,ds',p,q,rfl,rfl,rfl,h0,h1⟩:=trodAll_cons h
  have h2:=hts t (List.mem_cons_self ..)
  exact trodAll_cons_mk (WideElems.Trod_stays hl h2.1 h2.2 h0 (fun x hx=>hb.same (hlt x (List.mem_append_left _ hx))) (fun x hx=>hsp x (List.mem_append_left _ hx)))
   (args_stay hl hb (fun t ht=>hts t (List.mem_cons_of_mem _ ht)) h1 (fun x hx=>hlt x (List.mem_append_right _ hx)) (fun x hx=>hsp x (List.mem_append_right _ hx)))
theorem post_below {H:Type} {enc:TypeId×Value→H} {f:Func} {s:ChangeSpec} {apart fresh handsOn again:Bool} {W W':World} {args:Array Value} {v:Value} {ds gs:List (DataW H)} {before pa pv:List MemPlace}
  (hW:DataW.Whole enc P f.params.toList s.vars apart W args.toList ds gs before)
  (hres:∀ (b:Nat) (sp:Nat→Bool) (hd:Bool),DataW.TrodAll enc P W' b sp hd f.resultTypes.toList (v.resultList f.resultTypes.size) (s.fn H (ds++gs)).results [])
  (hargs:∀ sp:Nat→Bool,(∀ p∈before,sp p.block=true)→DataW.TrodAll enc P W' 0 sp true f.params.toList args.toList (s.fn H (ds++gs)).args pa)
  (hvars:∀ sp:Nat→Bool,(∀ p∈before,sp p.block=true)→DataW.TrodVars enc P W' sp s.vars (s.fn H (ds++gs)).vars pv)
  (hps:before=pa++pv) (hb:Below W.heap.size W W')
  (hok:∀ (j:Nat) (t:TypeId) (r:Value),f.resultTypes[j]?=some t→(v.resultList f.resultTypes.size)[j]?=some r→Value.okWide P W' .any 0 t r):
  s.post enc P f apart fresh handsOn again W args v W':=by
 have hlt:∀ p∈before,p.block < W.heap.size:=fun p hp=>hW.lt p hp
 have hold:∀ p∈before,(fun b=>decide (b < W.heap.size)) p.block=true:=fun p hp=>by simpa using hlt p hp
 refine ⟨ds,gs,before,[],pa,pv,hW,hres _ _ _,hargs _ hold,hvars _ hold,World.keptBut_mono (fun p hp=>⟨hp,?_⟩) (hb.frame (· ∈before)),fun _=>?_⟩
 ·rw[hps,List.mem_append] at hp
  exact Or.inr hp
 ·obtain ⟨_,_,_,_,_,hz,hn⟩:=hW
  refine ⟨hok,_,_,([]++pa)++pv,⟨[]++pa,pv,trodAll_append (hargs _ (fun _ _=>rfl)) (hres _ _ _),hvars _ (fun _ _=>rfl),rfl,?_,?_⟩,?_⟩
  ·intro b off hp
   have hin:MemPlace.cell b off∈before:=by rw[hps];simpa using hp
   rw[hb.frozen (hlt _ hin)]
   exact hz b off hin
  ·intro ha
   have:=hn ha
   rw[hps] at this
   simpa using this
  ·intro p hp _
   rw[hps]
   simpa using hp
theorem law_contract (T:TOk P tt) {S:List TypeId} (hS:readB tt S=true) {f:FuncId} {fn:Func} {c:Code} (hf:P.funcs[f]?=some fn) (hb:fn.body=some c) (hname:(fn.name == "runtime.NumGoroutine")=false) {tb:TypeId} (hres:fn.resultTypes= #[tb]) (htb:P.underlying tb=some .bool)
  {ts:List TypeId} (hts:fn.params=ts.toArray) (htS:∀ t∈ts,t∈S) (hl:laidOutB P=true) (hrd:∀ t∈ts,P.readableRec t=true∧t < P.types.size) (hC:∀ avs,HasArgs tt ts avs→∃ outs,Contract P f avs (.bool true) outs)
  {s:ChangeSpec} (hsv:s.vars=[]) {H:Type} (hsf:∀ ds:List (DataW H),ds.length=ts.length→s.fn H ds={results:=[.lit (.bool true)],args:=ds}) (enc:TypeId×Value→H) (W:World) (base:Nat) (args:Array Value) (ds gs:List (DataW H)) (before:List MemPlace)
  (hval:∀ (j:Nat) t v,fn.params[j]?=some t→args[j]?=some v→Value.okWide P W .any base t v)
  (hW:DataW.Whole enc P fn.params.toList s.vars false W args.toList ds gs before):
  Calls P f args W fun e W'=>∃ v,e= .returned v∧s.post enc P fn false true false false W args v W':=by
 have hW':=hW
 obtain ⟨p,q,hA,hV,rfl,hfz,hnd⟩:=hW
 rw[hsv] at hV
 obtain ⟨rfl,rfl⟩:=trodVars_none hV
 rw[hts] at hA
 simp only at hA
 obtain ⟨avs,g1,g2⟩:=args_rel (j:=0) T hS htS hA (fun j t v ht hv=>hval j t v (by rw[hts];simpa using ht) (by simpa using hv))
 obtain ⟨outs,hcon⟩:=hC avs g1
 have hlt:∀ p'∈p++[],p'.block < W.heap.size:=fun p' hp'=>hW'.lt p' hp'
 have hdl:ds.length=ts.length:=by
  have:∀ {ts:List TypeId} {vals:List Value} {ds:List (DataW H)} {ps:List MemPlace},DataW.TrodAll enc P W 0 (fun _=>true) true ts vals ds ps→ds.length=ts.length:=fun {ts}=>by
   induction ts with
   | nil=>intro vals ds ps h;obtain ⟨_,rfl,_⟩:=trodAll_nil h;rfl
   | cons t ts ih=>intro vals ds ps h;obtain ⟨v,vals',d,ds',p,q,rfl,rfl,rfl,_,h1⟩:=trodAll_cons h;simp[ih h1]
  exact this hA
 have hrun:=hcon (immB W) W args.toList (fun b g hb=>by unfold immB at hb;split at hb;assumption;cases hb) (fun b id p hb=>by unfold immB at hb;split at hb<;>cases hb) g2
 unfold callRun at hrun
 have hname':fn.name≠ "runtime.NumGoroutine" :=by simpa using hname
 have henter:(callFunc f args.toList.toArray).run P W= .ok (.enter f args.toList.toArray) W:=by simp[callFunc,hf,hname',hb,go_sem]
 rw[henter] at hrun
 refine Calls.mono hrun fun e W' ⟨v,he,κ',hv,_,ST,_⟩=>?_
 have hv:v= .bool true:=hv
 subst hv
 refine ⟨_,he,?_⟩
 have hbel:Below W.heap.size W W':=ST.below fun b hb K e=>by unfold immB at e;split at e<;>cases e
 have hsf':=hsf (ds++[]) (by simpa using hdl)
 refine post_below (pa:=p) (pv:=[]) hW' (fun b sp hd=>?_) (fun sp hsp=>?_) (fun sp hsp=>?_) rfl hbel (ok_one hres rfl (okWide_bool_mk htb true))
 ·rw[hsf',hres]
  exact trodAll_cons_mk (shut_bool htb true) trodAll_mk0
 ·rw[hsf',hts]
  simp only[List.append_nil]
  exact args_stay hl hbel hrd hA (fun p' hp'=>hlt p' (by simpa using hp')) (fun p' hp'=>hsp p' (by simpa using hp'))
 ·rw[hsf',hsv]
  rfl
end
end Go.Proofs.VI
end
section
namespace Go.Proofs.VI
open Go
def on0 (o:Oper):Bool:=o.after.toList.any fun e=>Region.binds .any e&&Nat.beq e.on 0
def coinP (l:List Oper):Option (TypeId×Nat×Nat):=match l with
 | [o0,o1,o2,o3]=>match o0.op with
  | .alloc t=>match o0.dst with
   | some d0=>match o1.op with
    | .store t1 (.tmp x1) (.const (.bool b1))=>match o2.op with
     | .store t2 (.tmp x2) (.const (.bool b2))=>match o3.op with
      | .load t3 (.tmp x3)=>match o3.dst with
       | some d3=>bif (((Nat.beq t t1&&Nat.beq t t2)&&(Nat.beq t t3&&Nat.beq d0 x1))&&((Nat.beq d0 x2&&Nat.beq d0 x3)&&(!Nat.beq d0 d3&&(o0.guard.isNone&&o1.guard.isNone))))&&(((o2.guard.isNone&&o3.guard.isNone)&&(o1.dst.isNone&&o2.dst.isNone))&&((on0 o1&&on0 o2)&&(on0 o3&&edgesOk 0 [o0,o1,o2,o3]))) then some (t,d0,d3) else none
       | none=>none
      | _=>none
     | _=>none
    | _=>none
   | none=>none
  | _=>none
 | _=>none
def coinK (tt:TypeId→Option TI) (x:TypeId×Nat×Nat) (n:Nat) (s:Slots) (h:Heap) (Q:Nat→Slots→Heap→Prop):Prop:=
 ty tt x.1 fun i=>match i.zero with
  | [z]=>match bval z with
   | some _=>match Nat.beq i.size 1&&!isStruct i with
    | true=>∀ (b:Bool) (v:AV),Q (n+1) (put (put s (some x.2.1) (.ptr n 0 0)) (some x.2.2) (.bool b)) (upd h n (some (.box [v] [])))
    | false=>False
   | none=>False
  | _=>False
abbrev WpA:=Nat→Slots→Heap→(Nat→Slots→Heap→Prop)→Prop
abbrev WpD:=Nat→Nat→Slots→Heap→List Log→(Nat→Slots→Heap→List Log→Prop)→Prop
abbrev WpC:=Nat→Slots→Heap→(Nat→Ex→Slots→Heap→Prop)→Prop
section
variable (C:FuncId→List AV→AV→List (Option AV)→Prop) (tt:TypeId→Option TI)
def aopsNil:WpA:=fun n s h K=>K n s h
def aopsCons (all:List Oper) (o:Oper) (_:List Oper) (ih:WpA):WpA:=fun n s h K=>
  match o.guard with
  | none=>aop C tt n o s h fun _ n v h=>ih n (put s o.dst v) h K
  | some (j,want)=>match all[j]? with
   | some oj=>match oj.dst with
    | some d=>match s d with
     | some b=>
      match b with
      | .tt=>(match want with | true=>aop C tt n o s h fun _ n v h=>ih n (put s o.dst v) h K | false=>ih n (put s o.dst (.tup [])) h K)
      | .ff=>(match want with | true=>ih n (put s o.dst (.tup [])) h K | false=>aop C tt n o s h fun _ n v h=>ih n (put s o.dst v) h K)
      | .bool b=>(match want with
       | true=>(b=true→aop C tt n o (put s (some d) .tt) h fun _ n v h=>ih n (put (put s (some d) .tt) o.dst v) h K)∧(b=false→ih n (put (put s (some d) .ff) o.dst (.tup [])) h K)
       | false=>(b=false→aop C tt n o (put s (some d) .ff) h fun _ n v h=>ih n (put (put s (some d) .ff) o.dst v) h K)∧(b=true→ih n (put (put s (some d) .tt) o.dst (.tup [])) h K))
      | .tup []=>ih n (put s o.dst (.tup [])) h K
      | _=>False
     | none=>False
    | none=>False
   | none=>False
def aopsR (all ops:List Oper):WpA:=List.rec (motive:=fun _=>WpA) aopsNil (aopsCons C tt all) ops
theorem aopsR_eq (all ops:List Oper):aopsR C tt all ops=fun n s h K=>aops C tt all n ops s h K:=by
 induction ops with
 | nil=>rfl
 | cons o rest ih=>
  show aopsCons C tt all o rest (aopsR C tt all rest)=_
  rw[ih]
  funext n s h K
  rfl
def aopsDNil:WpD:=fun n _ s h log K=>K n s h log
def goD (o:Oper) (ih:WpD) (n i:Nat) (s:Slots) (h:Heap) (log:List Log) (K:Nat→Slots→Heap→List Log→Prop):Prop:=
 match lite tt h s o.op with | some (v,F)=>(match belowN n F with | true=>ih n (i+1) (put s o.dst v) h (⟨i,F,false⟩::log) K | false=>False) | none=>match liteS tt h s o.op with | some (j,b)=>(match belowN n [j] with | true=>ih n (i+1) (put s o.dst .und) (upd h j (some b)) (⟨i,[j],true⟩::log) K | false=>False) | none=>forceN (reach 40 h (idsOps (seeS s o.op) o.op.operands.toList)) fun F=>(match belowN n F&&(okOps F (seeS s o.op) o.op.operands.toList&&okB F 0 0 h F) with
   | true=>aop C tt n o (onlyS (seeS s o.op) o.op.operands.toList) (restr h F) fun w n' v h'=>
    match !w&&Nat.beq n' n with
    | true=>(match okN F n n v with
     | true=>ih n (i+1) (put s o.dst v) h (⟨i,F,false⟩::log) K
     | false=>False)
    | false=>forceN (news n (n' - n)) fun N=>(match Nat.ble n n'&&(okN F n n' v&&(okB F n n' h' F&&okB F n n' h' N)) with
     | true=>ih n' (i+1) (put s o.dst v) (merge h h' F w n n') (⟨i,N,true⟩::⟨i,F,w⟩::log) K
     | false=>False)
   | false=>False)
def aopsDCons (all:List Oper) (o:Oper) (_:List Oper) (ih:WpD):WpD:=fun n i s h log K=>
  match o.guard with
  | none=>goD C tt o ih n i s h log K
  | some (j,want)=>match all[j]? with
   | some oj=>match oj.dst with
    | some d=>match s d with
     | some b=>
      match b with
      | .tt=>(match want with | true=>goD C tt o ih n i s h log K | false=>ih n (i+1) (put s o.dst (.tup [])) h log K)
      | .ff=>(match want with | true=>ih n (i+1) (put s o.dst (.tup [])) h log K | false=>goD C tt o ih n i s h log K)
      | .bool b=>(match want with
       | true=>(b=true→goD C tt o ih n i (put s (some d) .tt) h log K)∧(b=false→ih n (i+1) (put (put s (some d) .ff) o.dst (.tup [])) h log K)
       | false=>(b=false→goD C tt o ih n i (put s (some d) .ff) h log K)∧(b=true→ih n (i+1) (put (put s (some d) .tt) o.dst (.tup [])) h log K))
      | .tup []=>ih n (i+1) (put s o.dst (.tup [])) h log K
      | _=>False
     | none=>False
    | none=>False
   | none=>False
def aopsDR (all ops:List Oper):WpD:=List.rec (motive:=fun _=>WpD) aopsDNil (aopsDCons C tt all) ops
theorem aopsDR_eq (all ops:List Oper):aopsDR C tt all ops=fun n i s h log K=>aopsD C tt all n i ops s h log K:=by
 induction ops with
 | nil=>rfl
 | cons o rest ih=>
  show aopsDCons C tt all o rest (aopsDR C tt all rest)=_
  rw[ih]
  funext n i s h log K
  rfl
def ewpSkip:WpC:=fun n s h Q=>Q n .normal s h
def ewpReg0 (ops:Array Oper) (draw:Bool):WpC:=fun n s h Q=>match draw with
 | false=>aopsR C tt ops.toList ops.toList n s h fun n s h=>Q n .normal s h
 | true=>match coinP ops.toList with
  | some x=>coinK tt x n s h fun n s h=>Q n .normal s h
  | none=>aopsDR C tt ops.toList ops.toList n 0 s h [] fun n s h log=>regOk ops log=true∧Q n .normal s h
def ewpReg (cut:Nat→Bool) (id:Nat) (ops:Array Oper) (draw:Bool):WpC:=fun n s h Q=>match cut id with
 | false=>ewpReg0 C tt ops draw n s h Q
 | true=>∃ (α:Type) (S:α→Loose) (a:α),Weak s h (S a)∧∀ (a:α),forceNat (nextId (S a)) fun n=>ewpReg0 C tt ops draw n (slots (S a).s) (heap (S a).h) Q
def ewpSeq (_ _:Code) (a b:WpC):WpC:=fun n s h Q=>a n s h fun n e s h=>match e with | .normal=>b n s h Q | .exit i=>Q n (.exit i) s h | .ret=>Q n .ret s h
def ewpCond (c:Operand) (_ _:Code) (a b:WpC):WpC:=fun n s h Q=>match c with
  | .tmp t=>match s t with
   | some v=>(match v with
    | .tt=>a n s h Q
    | .ff=>b n s h Q
    | .bool v=>(v=true→a n (put s (some t) .tt) h Q)∧(v=false→b n (put s (some t) .ff) h Q)
    | _=>False)
   | none=>False
  | _=>False
def ewpBlock (id:Nat) (_:Code) (c:WpC):WpC:=fun n s h Q=>c n s h fun n e s h=>match e with | .normal=>Q n .normal s h | .exit j=>bif Nat.beq j id then Q n .normal s h else Q n (.exit j) s h | .ret=>Q n .ret s h
def ewpLoop (_:Code) (c:WpC):WpC:=fun _ s h Q=>∃ (α:Type) (S:α→Loose) (μ:α→Nat) (a:α),Weak s h (S a)∧∀ (a:α),forceNat (nextId (S a)) fun n=>c n (slots (S a).s) (heap (S a).h) fun n e s h=>match e with
  | .normal=>∃ a',μ a' < μ a∧Weak s h (S a')
  | .exit i=>Q n (.exit i) s h
  | .ret=>Q n .ret s h
def ewpExit (i:Nat):WpC:=fun n s h Q=>Q n (.exit i) s h
def ewpRet:WpC:=fun n s h Q=>Q n .ret s h
def ewpBad:WpC:=fun _ _ _ _=>False
def ewpR (cut:Nat→Bool) (c:Code):WpC:=Code.rec (motive:=fun _=>WpC) ewpSkip (ewpReg C tt cut) ewpSeq ewpCond ewpBlock ewpLoop (fun _ _ _ _ _ _=>ewpBad) ewpExit (fun _ _=>ewpBad) (fun _=>ewpBad) (fun _=>ewpBad) ewpRet (fun _=>ewpBad) c
def ewpG (cut:Nat→Bool) (fn:Func) (args:List AV) (res:AV) (outs:List (Option AV)):Prop:=
 match fn.body with
 | none=>False
 | some c=>openAs 0 (heap []) args fun n vs h=>ewpR C tt cut c n (slots (number 0 vs)) h fun n e s h=>
  match e with
  | .exit _=>False
  | _=>resultsV tt fn.results.toList n s h fun rs h=>closeV 40 .mv h [] (tuple rs) fun r h vis=>(match vis with | []=>Sim r res∧outsK h s 0 outs | _=>False)
end
end Go.Proofs.VI
end
section
namespace Go.Proofs.VI
open Go
variable {tt:TypeId→Option TI} {t:TypeId} {i:TI} {l:List AV}
theorem hty_int {k:IntKind} (ht:tt t=some i) (hk:i.kind= .int k) (h:HasTy tt t l):∃ n,l=[.int k n]∧(Lit.int k n).wf=true:=by
 cases h with
 | int h1 h2 h3=>rw[ht] at h1;injection h1 with h1;subst h1;rw[hk] at h2;injection h2 with h2;subst h2;exact ⟨_,rfl,h3⟩
 | bool h1 h2=>rw[ht] at h1;injection h1 with h1;subst h1;rw[hk] at h2;cases h2
 | str h1 h2=>rw[ht] at h1;injection h1 with h1;subst h1;rw[hk] at h2;cases h2
 | slice h1 h2=>rw[ht] at h1;injection h1 with h1;subst h1;rw[hk] at h2;cases h2
 | struct h1 h2=>rw[ht] at h1;injection h1 with h1;subst h1;rw[hk] at h2;cases h2
theorem hty_slice {e:TypeId} {ie:TI} (ht:tt t=some i) (hk:i.kind= .slice e) (he:tt e=some ie) (h:HasTy tt t l):∃ rows,l=[.ro ie.size rows]∧rows.length≤maxLen∧∀ row∈rows,HasTy tt e row:=by
 cases h with
 | int h1 h2 h3=>rw[ht] at h1;injection h1 with h1;subst h1;rw[hk] at h2;cases h2
 | bool h1 h2=>rw[ht] at h1;injection h1 with h1;subst h1;rw[hk] at h2;cases h2
 | str h1 h2 h3=>rw[ht] at h1;injection h1 with h1;subst h1;rw[hk] at h2;cases h2
 | slice h1 h2 h3 h4 h5=>
  rw[ht] at h1;injection h1 with h1;subst h1;rw[hk] at h2;injection h2 with h2;subst h2
  rw[he] at h3;injection h3 with h3;subst h3
  exact ⟨_,rfl,h4,h5⟩
 | struct h1 h2=>rw[ht] at h1;injection h1 with h1;subst h1;rw[hk] at h2;cases h2
theorem rows_of {α:Type} {f:α→List AV} {q:α→Prop}:∀ (rows:List (List AV)),(∀ row∈rows,∃ x,row=f x∧q x)→∃ l:List α,rows=l.map f∧∀ x∈l,q x
 | [],_=>⟨[],rfl,by simp⟩
 | r::rows,h=>by
  obtain ⟨x,hx,hq⟩:=h r (by simp)
  obtain ⟨l,hl,hql⟩:=rows_of rows fun row hr=>h row (by simp[hr])
  exact ⟨x::l,by rw[hx,hl];rfl,by simpa using ⟨hq,hql⟩⟩
theorem wfu8 {n:Int} (h:(Lit.int .u8 n).wf=true):0≤n∧n≤255:=by
 simpa [Lit.wf,IntKind.min,IntKind.max,IntKind.signed,IntKind.bits] using h
end Go.Proofs.VI
end
section
set_option linter.unusedVariables false
set_option linter.unusedSimpArgs false
namespace Go.Proofs.VI
open Go
section
variable {P:Program} {w w' w0:World} {κ κ' κ0 κ3 κc:Gh} {m m':Nat→Addr} {n n' N:Nat} {M:Fm} {s s':Slots} {h h':Heap} {a:Act} {L L':AV→Value→Prop} {tt:TypeId→Option TI} {C:FuncId→List AV→AV→List (Option AV)→Prop} {cut:Nat→Bool}
theorem coinP_un {l:List Oper} {t:TypeId} {d0 d3:Nat} (h:coinP l=some (t,d0,d3)):∃ o0 o1 o2 o3 b1 b2,l=[o0,o1,o2,o3]∧(o0.op= .alloc t∧o0.dst=some d0∧o0.guard=none)∧(o1.op= .store t (.tmp d0) (.const (.bool b1))∧o1.dst=none∧o1.guard=none∧on0 o1=true)∧(o2.op= .store t (.tmp d0) (.const (.bool b2))∧o2.dst=none∧o2.guard=none∧on0 o2=true)∧(o3.op= .load t (.tmp d0)∧o3.dst=some d3∧o3.guard=none∧on0 o3=true)∧d0≠d3∧edgesOk 0 l=true:=by
 unfold coinP at h
 split at h<;>try (cases h;done)
 rename_i o0 o1 o2 o3
 split at h<;>try (cases h;done)
 rename_i t0 e0
 split at h<;>try (cases h;done)
 rename_i d e0d
 split at h<;>try (cases h;done)
 rename_i t1 x1 b1 e1
 split at h<;>try (cases h;done)
 rename_i t2 x2 b2 e2
 split at h<;>try (cases h;done)
 rename_i t3 x3 e3
 split at h<;>try (cases h;done)
 rename_i dd e3d
 rw[cond_eq_ite] at h
 split at h<;>try (cases h;done)
 rename_i hb
 injection h with h
 injection h with h1 h
 injection h with h2 h3
 subst h1 h2 h3
 simp only[Bool.and_eq_true,Nat.beq_eq,Option.isNone_iff_eq_none,Bool.not_eq_true'] at hb
 obtain ⟨⟨⟨⟨q1,q2⟩,q3,q4⟩,⟨q5,q6⟩,q7,q8,q9⟩,⟨⟨q10,q11⟩,q12,q13⟩,⟨q14,q15⟩,q16,q17⟩:=hb
 subst q1 q2 q3 q4 q5 q6
 exact ⟨o0,o1,o2,o3,b1,b2,rfl,⟨e0,e0d,q8⟩,⟨e1,q12,q9,q14⟩,⟨e2,q13,q10,q15⟩,⟨e3,e3d,q11,q16⟩,fun e=>by rw[e] at q7;simp at q7,q17⟩
def isTruth (v:AV):Prop:=∃ b,bval v=some b
theorem isTruth.cases {v:AV} (h:isTruth v):v= .tt∨v= .ff∨∃ b,v= .bool b:=by
 obtain ⟨b,h⟩:=h
 unfold bval at h
 split at h
 ·exact .inl rfl
 ·exact .inr (.inl rfl)
 ·exact .inr (.inr ⟨_,rfl⟩)
 ·cases h
theorem isTruth.norm {v:AV} (h:isTruth v):∃ b,norm v= .bool b:=by
 rcases h.cases with rfl | rfl | ⟨b,rfl⟩
 ·exact ⟨true,rfl⟩
 ·exact ⟨false,rfl⟩
 ·exact ⟨b,rfl⟩
def FamC (M:Fm) (κ0:Gh) (w0:World) (n:Nat) (s:Slots) (h:Heap) (d0 d3:Nat) (D0 D3:Bool) (a:Act) (w:World):Prop:=
 match D0,D3 with
 | false,false=>∃ κ m,St M w κ m n s h a∧Stp κ0 w0 κ w
 | false,true=>False
 | true,false=>∃ κ m v,isTruth v∧St M w κ m (n+1) (put s (some d0) (.ptr n 0 0)) (upd h n (some (.box [v] []))) a∧Stp κ0 w0 κ w
 | true,true=>∃ κ m v c,isTruth v∧isTruth c∧St M w κ m (n+1) (put (put s (some d0) (.ptr n 0 0)) (some d3) c) (upd h n (some (.box [v] []))) a∧Stp κ0 w0 κ w
theorem upd_hit {α:Type} (f:Nat→Option α) (i:Nat) (b:Option α):upd f i b i=b:=by simp[upd]
theorem put_hit (s:Slots) (d:Nat) (v:AV):put s (some d) v d=some v:=by simp[put,upd]
theorem put_other (s:Slots) {d t:Nat} (v:AV) (h:t≠d):put s (some d) v t=s t:=by
 have:Nat.beq t d=false:=by cases e:Nat.beq t d with | false=>rfl | true=>exact absurd (Nat.eq_of_beq_eq_true e) h
 simp[put,upd,this]
theorem coin_store (T:TOk P tt) (HC:∀ f args res outs,C f args res outs→Contract P f args res outs) {t:TypeId} {i:TI} (hi:tt t=some i) (h1:i.size=1) {o:Oper} {d0:Nat} {bb:Bool} (ho:o.op= .store t (.tmp d0) (.const (.bool bb))) (hd:o.dst=none) {v:AV} {s1:Slots} (hs:s1 d0=some (.ptr n 0 0)) (S:St M w κ m (n+1) s1 (upd h n (some (.box [v] []))) a) (ST:Stp κ0 w0 κ w) {K:Act→World→Prop} {Q:Exit→Act→World→Prop}
  (hK:∀ a w κ m v,isTruth v→St M w κ m (n+1) s1 (upd h n (some (.box [v] []))) a→Stp κ0 w0 κ w→K a w):o.wp P a w K Q:=by
 have hk:aop C tt (n+1) o s1 (upd h n (some (.box [v] []))) (fun _ n' v' h'=>n'=n+1∧∃ x,isTruth x∧h'=upd h n (some (.box [x] []))):=by
  unfold aop
  rw[ho]
  simp only[ty,hi,opv,hs]
  cases bb
  ·simp only[cst,cst1,storeV,store,upd_hit,h1,AV.cells,List.length_singleton,keepHoles,holesOf,setCells,upd_upd]
   exact ⟨trivial,.ff,⟨false,rfl⟩,rfl⟩
  ·simp only[cst,cst1,storeV,store,upd_hit,h1,AV.cells,List.length_singleton,keepHoles,holesOf,setCells,upd_upd]
   exact ⟨trivial,.tt,⟨true,rfl⟩,rfl⟩
 refine Oper.wp_mono2 (fun a' w' hp=>?_) (fun _ _ _ h=>h) (aop_sound T HC S.rel hk)
 obtain ⟨f,n',v',h',κ',m',u,⟨rfl,x,hx,rfl⟩,hn,rfl,hv,R,S',_⟩:=hp
 rw[hd]
 exact hK _ _ κ' m' x hx ⟨R,S.fr⟩ (ST.trans S')
theorem coin_sound (T:TOk P tt) (HC:∀ f args res outs,C f args res outs→Contract P f args res outs) (hm:P.follows .mixedOrders=true) {opsA:Array Oper} {id:Nat} {M:Fm} {x:TypeId×Nat×Nat} (hc:coinP opsA.toList=some x) {K:Nat→Slots→Heap→Prop} (hk:coinK tt x n s h K)
  (S:St M w κ m n s h a) (ST:Stp κ0 w0 κ w) (hdst:∀ o∈opsA.toList,∀ d,o.dst=some d→M.ok d) {Q:Exit→Act→World→Prop} (hQ:∀ a w,Up K M κ0 w0 a w→Q .normal a w):(Code.region id opsA true).wp P Q a w:=by
 obtain ⟨t,d0,d3⟩:=x
 obtain ⟨o0,o1,o2,o3,b1,b2,hl,⟨p0,q0,g0⟩,⟨p1,q1,g1,r1⟩,⟨p2,q2,g2,r2⟩,⟨p3,q3,g3,r3⟩,hne,hed⟩:=coinP_un hc
 obtain ⟨i,hi,z,hz,hzt,h1,hst,hall⟩:∃ i,tt t=some i∧∃ z,i.zero=[z]∧isTruth z∧i.size=1∧isStruct i=false∧∀ (b:Bool) (v:AV),K (n+1) (put (put s (some d0) (.ptr n 0 0)) (some d3) (.bool b)) (upd h n (some (.box [v] []))):=by
  unfold coinK ty at hk
  dsimp only at hk
  split at hk
  ·rename_i i hi
   split at hk
   ·rename_i z hz
    split at hk
    ·rename_i b hb
     split at hk
     ·rename_i h1
      simp only[Bool.and_eq_true,Bool.not_eq_true'] at h1
      exact ⟨i,hi,z,hz,⟨b,hb⟩,Nat.eq_of_beq_eq_true h1.1,h1.2,hk⟩
     ·exact hk.elim
    ·exact hk.elim
   ·exact hk.elim
  ·exact hk.elim
 have hops:∀ k:Nat,opsA[k]?=[o0,o1,o2,o3][k]?:=fun k=>by rw[←hl];simp
 have hsz:opsA.size=4:=by have:=congrArg List.length hl;simpa using this
 have dok0:M.ok d0:=hdst o0 (by rw[hl];simp) d0 q0
 have dok3:M.ok d3:=hdst o3 (by rw[hl];simp) d3 q3
 have dep:∀ {o:Oper} {listed:Array Bool},on0 o=true→(∀ e∈o.after,Region.binds .any e=true→listed.getD e.on false=true)→listed.getD 0 false=true:=fun {o listed} ho he=>by
  unfold on0 at ho
  rw[List.any_eq_true] at ho
  obtain ⟨e,hm,hb⟩:=ho
  simp only[Bool.and_eq_true,Nat.beq_eq] at hb
  have:=he e (by simpa using hm) hb.1
  rwa [hb.2] at this
 have ready_nil:∀ (listed:Array Bool),listed.size=4→Region.ready .any opsA listed=[]→∀ k,k < 4→listed.getD k false=true:=fun listed hls hr k=>by
  induction k using Nat.strongRecOn with
  | _ k ih=>
   intro hk
   cases hd:listed.getD k false with
   | true=>rfl
   | false=>
    exfalso
    have:k∈Region.ready .any opsA listed:=mem_ready.2 ⟨by
     simp only[Array.getD,hls,hk,dif_pos] at hd⊢
     exact hd,opsA[k]'(by omega),Array.getElem?_eq_getElem (by omega),fun e he hb=>by
      have:=edgesOk_at hed k (opsA[k]'(by omega)) (by simp[hsz,hk]) e he hb
      exact ih e.on (by omega) (by omega)⟩
    rw[hr] at this
    simp at this
 have done:∀ (listed:Array Bool) (a:Act) (w:World),(∀ k,k < 4→listed.getD k false=true)→FamC M κ0 w0 n s h d0 d3 (listed.getD 0 false) (listed.getD 3 false) a w→Q .normal a w:=fun listed a w hall2 F=>by
  rw[hall2 0 (by decide),hall2 3 (by decide)] at F
  obtain ⟨κ,m,v,c,hv,hcc,S,ST⟩:=F
  obtain ⟨b,hb⟩:=hcc.norm
  refine hQ a w ⟨n+1,_,_,κ,m,hall b v,⟨S.rel.retell fun t'=>?_,S.fr⟩,ST⟩
  by_cases e:t'=d3
  ·subst e
   rw[put_hit,put_hit]
   exact congrArg some hb.symm
  ·rw[put_other _ _ e,put_other _ _ e]
 refine wp_region_any hm ?_
 have go:∀ (fuel:Nat) (listed:Array Bool) (a:Act) (w:World),listed.size=4→cnt listed.toList≤fuel→(listed.getD 3 false=true→listed.getD 0 false=true)→FamC M κ0 w0 n s h d0 d3 (listed.getD 0 false) (listed.getD 3 false) a w→wpAny P .any opsA Q fuel listed a w:=by
  intro fuel
  induction fuel with
  | zero=>
   intro listed a w hls hcnt h30 F
   have hallD:∀ k,k < 4→listed.getD k false=true:=fun k hk=>by
    have:listed.toList[k]?=some (listed[k]'(by omega)):=by simp[hls,hk]
    have:=cnt_zero (Nat.le_zero.1 hcnt) k _ this
    simp[Array.getD,hls,hk,this]
   refine ⟨?_,done listed a w hallD F⟩
   cases hr:Region.ready .any opsA listed with
   | nil=>rfl
   | cons i r=>
    exfalso
    have hi:i∈Region.ready .any opsA listed:=by rw[hr];exact List.mem_cons_self ..
    obtain ⟨h1,o,h2,_⟩:=mem_ready.1 hi
    have hlt:=(Array.getElem?_eq_some_iff.1 h2).1
    rw[hsz] at hlt
    have:=hallD i hlt
    simp only[Array.getD,hls,hlt,dif_pos] at this h1
    rw[this] at h1;cases h1
  | succ fuel ihf=>
   intro listed a w hls hcnt h30 F
   refine ⟨fun hr=>done listed a w (ready_nil listed hls hr) F,fun k hk=>?_⟩
   obtain ⟨hk1,o,hko,hedge⟩:=mem_ready.1 hk
   have hlt:=(Array.getElem?_eq_some_iff.1 hko).1
   rw[hsz] at hlt
   have hkF:listed.getD k false=false:=by
    simp only[Array.getD,hls,hlt,dif_pos] at hk1⊢
    exact hk1
   have hcnt':cnt (listed.setIfInBounds k true).toList≤fuel:=by
    have:listed.toList[k]?=some false:=by
     have h1:k < listed.size:=by omega
     have:=hkF
     rw[Array.getD_eq_getD_getElem?] at this
     simp only[Array.getElem?_toList]
     simp only[h1,Array.getElem?_eq_getElem,Option.getD_some] at this⊢
     rw[this]
    have:=cnt_set this
    rw[Array.toList_setIfInBounds]
    omega
   have hls':(listed.setIfInBounds k true).size=4:=by rw[Array.size_setIfInBounds];exact hls
   have hget:∀ j,(listed.setIfInBounds k true).getD j false=if j=k then true else listed.getD j false:=fun j=>listD_set (by omega) j
   have next:∀ a w,FamC M κ0 w0 n s h d0 d3 ((listed.setIfInBounds k true).getD 0 false) ((listed.setIfInBounds k true).getD 3 false) a w→((listed.setIfInBounds k true).getD 3 false=true→(listed.setIfInBounds k true).getD 0 false=true)→wpAny P .any opsA Q fuel (listed.setIfInBounds k true) a w:=fun a w F hh=>ihf _ a w hls' hcnt' hh F
   unfold wpOp
   rw[hko]
   rw[hops k] at hko
   have hwant:∀ {o:Oper},o.guard=none→Region.wanted o (yielded opsA a.tmps)=true:=fun hg=>by simp[Region.wanted,hg]
   rcases k with _ | _ | _ | _ | k
   ·simp only[List.getElem?_cons_zero,Option.some.injEq] at hko
    subst hko
    dsimp only
    rw[if_pos (hwant g0)]
    refine .inl ?_
    rw[hkF] at F h30
    have h3F:listed.getD 3 false=false:=by
     cases e:listed.getD 3 false with
     | false=>rfl
     | true=>exact absurd (h30 e) (by decide)
    rw[h3F] at F
    obtain ⟨κ,m,S,ST⟩:=F
    have hk:aop C tt n o0 s h (fun _ n' v' h'=>n'=n+1∧v'= .ptr n 0 0∧h'=upd h n (some (.box [z] []))):=by
     unfold aop
     rw[p0]
     simp only[ty,hi,hz]
     exact ⟨trivial,trivial,trivial⟩
    refine Oper.wp_mono2 (fun a' w' hp=>?_) (fun _ _ _ h=>h) (aop_sound T HC S.rel hk)
    obtain ⟨f,n',v',h',κ',m',u,⟨rfl,rfl,rfl⟩,hn,rfl,hv,R,S',_⟩:=hp
    refine next _ _ ?_ (fun _=>by rw[hget];rfl)
    rw[hget,hget,if_pos rfl,if_neg (by decide),h3F,q0]
    exact ⟨κ',m',z,hzt,St.put ⟨R,S.fr⟩ (fun t ht=>by injection ht with ht;rw[←ht];exact dok0) hv,ST.trans S'⟩
   ·simp only[List.getElem?_cons_succ,List.getElem?_cons_zero,Option.some.injEq] at hko
    subst hko
    dsimp only
    rw[if_pos (hwant g1)]
    refine .inl ?_
    have h0T:=dep r1 hedge
    rw[h0T] at F
    cases h3:listed.getD 3 false with
    | false=>
     rw[h3] at F
     obtain ⟨κ,m,v,hv,S,ST⟩:=F
     refine coin_store T HC hi h1 p1 q1 (put_hit _ _ _) S ST fun a w κ m v hv S ST=>next _ _ ?_ (fun _=>by rw[hget,if_neg (by decide)];exact h0T)
     rw[hget,hget,if_neg (by decide),if_neg (by decide),h0T,h3]
     exact ⟨κ,m,v,hv,S,ST⟩
    | true=>
     rw[h3] at F
     obtain ⟨κ,m,v,c,hv,hcc,S,ST⟩:=F
     refine coin_store T HC hi h1 p1 q1 (by rw[put_other _ _ hne];exact put_hit _ _ _) S ST fun a w κ m v hv S ST=>next _ _ ?_ (fun _=>by rw[hget,if_neg (by decide)];exact h0T)
     rw[hget,hget,if_neg (by decide),if_neg (by decide),h0T,h3]
     exact ⟨κ,m,v,c,hv,hcc,S,ST⟩
   ·simp only[List.getElem?_cons_succ,List.getElem?_cons_zero,Option.some.injEq] at hko
    subst hko
    dsimp only
    rw[if_pos (hwant g2)]
    refine .inl ?_
    have h0T:=dep r2 hedge
    rw[h0T] at F
    cases h3:listed.getD 3 false with
    | false=>
     rw[h3] at F
     obtain ⟨κ,m,v,hv,S,ST⟩:=F
     refine coin_store T HC hi h1 p2 q2 (put_hit _ _ _) S ST fun a w κ m v hv S ST=>next _ _ ?_ (fun _=>by rw[hget,if_neg (by decide)];exact h0T)
     rw[hget,hget,if_neg (by decide),if_neg (by decide),h0T,h3]
     exact ⟨κ,m,v,hv,S,ST⟩
    | true=>
     rw[h3] at F
     obtain ⟨κ,m,v,c,hv,hcc,S,ST⟩:=F
     refine coin_store T HC hi h1 p2 q2 (by rw[put_other _ _ hne];exact put_hit _ _ _) S ST fun a w κ m v hv S ST=>next _ _ ?_ (fun _=>by rw[hget,if_neg (by decide)];exact h0T)
     rw[hget,hget,if_neg (by decide),if_neg (by decide),h0T,h3]
     exact ⟨κ,m,v,c,hv,hcc,S,ST⟩
   ·simp only[List.getElem?_cons_succ,List.getElem?_cons_zero,Option.some.injEq] at hko
    subst hko
    dsimp only
    rw[if_pos (hwant g3)]
    refine .inl ?_
    have h0T:=dep r3 hedge
    rw[h0T,hkF] at F
    obtain ⟨κ,m,v,hv,S,ST⟩:=F
    have hk:aop C tt (n+1) o3 (put s (some d0) (.ptr n 0 0)) (upd h n (some (.box [v] []))) (fun _ n' v' h'=>n'=n+1∧v'=v∧h'=upd h n (some (.box [v] []))):=by
     unfold aop
     rw[p3]
     simp only[ty,hi,opv,put_hit,load,upd_hit,h1]
     rcases hv.cases with rfl | rfl | ⟨b,rfl⟩
     ·simp[takeN,openCells,holeAt,ofCells,hst,force]
     ·simp[takeN,openCells,holeAt,ofCells,hst,force]
     ·simp[takeN,openCells,holeAt,ofCells,hst,force]
    refine Oper.wp_mono2 (fun a' w' hp=>?_) (fun _ _ _ h=>h) (aop_sound T HC S.rel hk)
    obtain ⟨f,n',v',h',κ',m',u,⟨rfl,rfl,rfl⟩,hn,rfl,hv',R,S',_⟩:=hp
    refine next _ _ ?_ (fun _=>by rw[hget,if_neg (by decide)];exact h0T)
    rw[hget,hget,if_neg (by decide),if_pos rfl,h0T,q3]
    exact ⟨κ',m',v',v',hv,hv,St.put ⟨R,S.fr⟩ (fun t ht=>by injection ht with ht;rw[←ht];exact dok3) hv',ST.trans S'⟩
   ·omega
 have hno:∀ k,(Array.replicate opsA.size false).getD k false=false:=fun k=>by
  by_cases hk:k < opsA.size<;>simp[Array.getD,hk]
 have hcntr:∀ k,cnt (List.replicate k false)=k:=fun k=>by
  induction k with
  | zero=>rfl
  | succ k ih=>simp[List.replicate_succ,cnt,ih]
 refine go opsA.size _ a _ (by simp[hsz]) (by simp[hcntr]) (fun h3=>by rw[hno] at h3;cases h3) ?_
 rw[hno,hno]
 have R0:Rel {w with drawn:=w.drawn+1} κ m n s h a:=S.rel.drew rfl
 exact ⟨κ,m,⟨R0,S.fr⟩,ST.trans ⟨rfl,rfl,rfl,Nat.le_refl _,fun _ _ _=>rfl,fun _ h=>h,fun _ _ h=>h,fun _ C _ _ h=>⟨C,h,rfl⟩⟩⟩
theorem ewpR_sound (T:TOk P tt) (HC:∀ f args res outs,C f args res outs→Contract P f args res outs) (hm:P.follows .mixedOrders=true) {Mn:Nat} {J:List Nat} (hM:Mn≤M.size) (hJ:∀ j,M.J j→j∈J):∀ (c:Code) {n:Nat} {s:Slots} {h:Heap} {κ:Gh} {m:Nat→Addr} {a:Act} {w:World} {Q:Nat→Ex→Slots→Heap→Prop},
  codeOk Mn J c=true→ewpR C tt cut c n s h Q→St M w κ m n s h a→Stp κ0 w0 κ w→c.wp P (UpX Q M κ0 w0) a w
 | .skip,n,s,h,κ,m,a,w,Q,hc,hk,S,ST=>wp_skip ⟨n,s,h,κ,m,hk,S,ST⟩
 | .region id ops draw,n,s,h,κ,m,a,w,Q,hc,hk,S,ST=>by
  have base:∀ {n:Nat} {s:Slots} {h:Heap} {κ:Gh} {m:Nat→Addr},ewpReg0 C tt ops draw n s h Q→St M w κ m n s h a→Stp κ0 w0 κ w→(Code.region id ops draw).wp P (UpX Q M κ0 w0) a w:=fun {n s h κ m} hk S ST=>by
   cases draw with
   | false=>
    replace hk:aopsR C tt ops.toList ops.toList n s h (fun n s h=>Q n .normal s h):=hk
    rw[aopsR_eq] at hk
    exact wp_region_list (aops_sound (K:=fun n s h=>Q n .normal s h) T HC (fun a w hu=>hu) hk S ST (dstOk_at hM hJ hc))
   | true=>
    replace hk:(match coinP ops.toList with | some x=>coinK tt x n s h (fun n s h=>Q n .normal s h) | none=>aopsDR C tt ops.toList ops.toList n 0 s h [] (fun n s h log=>regOk ops log=true∧Q n .normal s h)):=hk
    split at hk
    ·rename_i x hx
     exact coin_sound T HC hm hx hk S ST (dstOk_at hM hJ hc) (fun a w hu=>hu)
    rw[aopsDR_eq] at hk
    exact draw_region T HC hm (K:=fun n s h log=>regOk ops log=true∧Q n .normal s h) hk (fun _ _ _ _ hk=>hk.1) S ST (dstOk_at hM hJ hc) (fun a w hu=>by
     obtain ⟨n,s,h,κ,m,⟨log,hk⟩,S,ST⟩:=hu
     exact ⟨n,s,h,κ,m,hk.2,S,ST⟩)
  replace hk:ewpReg C tt cut id ops draw n s h Q:=hk
  unfold ewpReg at hk
  split at hk
  ·exact base hk S ST
  ·obtain ⟨α,F,x0,hw0,hall⟩:=hk
   obtain ⟨κ',m',R,ST'⟩:=Weak_sound S.rel hw0
   exact base (forceNat_eq (hall x0)) ⟨R,S.fr⟩ (ST.trans ST')
 | .seq x y,n,s,h,κ,m,a,w,Q,hc,hk,S,ST=>by
  simp only[codeOk,Bool.and_eq_true] at hc
  replace hk:ewpR C tt cut x n s h (fun n e s h=>match e with | .normal=>ewpR C tt cut y n s h Q | .exit i=>Q n (.exit i) s h | .ret=>Q n .ret s h):=hk
  refine wp_seq (wp_mono (ewpR_sound T HC hm hM hJ x hc.1 hk S ST) fun e a w hq=>?_)
  cases e with
  | normal=>
   obtain ⟨n,s,h,κ,m,hk,S,ST⟩:=hq
   exact ewpR_sound T HC hm hM hJ y hc.2 hk S ST
  | exit i=>exact hq
  | ret=>exact hq
  | _=>exact (show False from hq).elim
 | .cond c x y,n,s,h,κ,m,a,w,Q,hc,hk,S,ST=>by
  simp only[codeOk,Bool.and_eq_true] at hc
  replace hk:ewpCond c x y (ewpR C tt cut x) (ewpR C tt cut y) n s h Q:=hk
  unfold ewpCond at hk
  split at hk
  ·rename_i t
   split at hk
   ·rename_i v hv
    obtain ⟨h1,h2⟩:=S.rel.slot t v hv
    have he:∀ b,a.tmps.getD t undef= .bool b→a.eval (.tmp t)= .bool b:=fun b hb=>hb
    have St':∀ v',norm v'=norm v→St M w κ m n (put s (some t) v') h a:=fun v' hv'=>⟨S.rel.retell (put_norm hv hv'),S.fr⟩
    split at hk
    ·exact wp_cond (t:=true) (he _ h2) (ewpR_sound T HC hm hM hJ x hc.1 hk S ST)
    ·exact wp_cond (t:=false) (he _ h2) (ewpR_sound T HC hm hM hJ y hc.2 hk S ST)
    ·rename_i b
     cases b with
     | true=>exact wp_cond (t:=true) (he _ h2) (ewpR_sound T HC hm hM hJ x hc.1 (hk.1 rfl) (St' .tt rfl) ST)
     | false=>exact wp_cond (t:=false) (he _ h2) (ewpR_sound T HC hm hM hJ y hc.2 (hk.2 rfl) (St' .ff rfl) ST)
    ·exact hk.elim
   ·exact hk.elim
  ·exact hk.elim
 | .block id c,n,s,h,κ,m,a,w,Q,hc,hk,S,ST=>by
  replace hk:ewpR C tt cut c n s h (fun n e s h=>match e with | .normal=>Q n .normal s h | .exit j=>bif Nat.beq j id then Q n .normal s h else Q n (.exit j) s h | .ret=>Q n .ret s h):=hk
  refine wp_block (wp_mono (ewpR_sound T HC hm hM hJ c hc hk S ST) fun e a w hq=>?_)
  cases e with
  | normal=>exact hq
  | exit i=>
   obtain ⟨n,s,h,κ,m,hk,S,ST⟩:=hq
   simp only[Exit.inBlock]
   cases hb:Nat.beq i id with
   | true=>
    simp only[hb,cond_true] at hk
    rw[if_pos (Nat.eq_of_beq_eq_true hb)]
    exact ⟨n,s,h,κ,m,hk,S,ST⟩
   | false=>
    simp only[hb,cond_false] at hk
    rw[if_neg (fun e=>by rw[e,beqT] at hb;cases hb)]
    exact ⟨n,s,h,κ,m,hk,S,ST⟩
  | ret=>exact hq
  | _=>exact (show False from hq).elim
 | .loop c,n,s,h,κ,m,a,w,Q,hc,hk,S,ST=>by
  replace hk:ewpLoop c (ewpR C tt cut c) n s h Q:=hk
  obtain ⟨α,F,μ,x0,hw0,hround⟩:=hk
  have key:∀ (k:Nat) (x:α) (κ:Gh) (m:Nat→Addr) (a:Act) (w:World),μ x < k→St M w κ m (nextId (F x)) (slots (F x).s) (heap (F x).h) a→Stp κ0 w0 κ w→Code.rounds P c (UpX Q M κ0 w0) k a w:=fun k=>by
   induction k with
   | zero=>intro x κ m a w hlt;omega
   | succ k ih=>
    intro x κ m a w hlt S ST
    rw[rounds_succ]
    refine wp_mono (ewpR_sound T HC hm hM hJ c hc (forceNat_eq (hround x)) S ST) fun e a w hq=>?_
    cases e with
    | normal=>
     obtain ⟨n,s,h,κ,m,⟨x',hlt',hw⟩,S,ST⟩:=hq
     obtain ⟨κ',m',R,ST'⟩:=Weak_sound S.rel hw
     exact ih x' κ' m' a w (by omega) ⟨R,S.fr⟩ (ST.trans ST')
    | exit i=>exact hq
    | ret=>exact hq
    | _=>exact (show False from hq).elim
  obtain ⟨κ',m',R,ST'⟩:=Weak_sound S.rel hw0
  exact wp_loop_rounds (μ x0+1) (key _ x0 κ' m' a w (Nat.lt_succ_self _) ⟨R,S.fr⟩ (ST.trans ST'))
 | .exit id,n,s,h,κ,m,a,w,Q,hc,hk,S,ST=>wp_exit ⟨n,s,h,κ,m,hk,S,ST⟩
 | .ret,n,s,h,κ,m,a,w,Q,hc,hk,S,ST=>wp_ret ⟨n,s,h,κ,m,hk,S,ST⟩
 | .rangeFunc ..,n,s,h,κ,m,a,w,Q,hc,hk,S,ST=>(show False from hk).elim
 | .scope ..,n,s,h,κ,m,a,w,Q,hc,hk,S,ST=>(show False from hk).elim
 | .label ..,n,s,h,κ,m,a,w,Q,hc,hk,S,ST=>(show False from hk).elim
 | .goto ..,n,s,h,κ,m,a,w,Q,hc,hk,S,ST=>(show False from hk).elim
 | .refuse ..,n,s,h,κ,m,a,w,Q,hc,hk,S,ST=>(show False from hk).elim
theorem contract_of2 (T:TOk P tt) (HC:∀ f args res outs,C f args res outs→Contract P f args res outs) (hm:P.follows .mixedOrders=true) {f:FuncId} {fn:Func} (hf:P.funcs[f]?=some fn) (hname:(fn.name == "runtime.NumGoroutine")=false) {args:List AV} {res:AV} {outs:List (Option AV)}
  (hc:(match fn.body with | some c=>codeOk fn.ntmps (outsJ 0 outs) c | none=>false)=true) (hk:ewpG C tt cut fn args res outs):Contract P f args res outs:=by
 intro κ w vals hlow hfr hrel
 unfold ewpG at hk
 split at hk
 ·exact hk.elim
 ·rename_i c hb
  rw[hb] at hc
  simp only at hc
  obtain ⟨n',vs,h',hk,_,g,hg,hopen⟩:=openAs_sound (c0:=0) hk
  let κ1:Gh:=fun b=>match κ b with | some (.key K)=>some (.key (0,(0,K.1)::K.2)) | x=>x
  let κ3:Gh:=fun b=>match κ b with | some (.key K)=>(match g ((0,K.1)::K.2) with | some k=>some (.key k) | none=>none) | x=>x
  have hrel1:relL w κ1 noL (some (0,[])) 0 args vals:=relA_L (fun b hb=>⟨by simp[κ1,hb],rfl⟩) (fun j p b hb=>by simp[κ1,hb]) hrel
  obtain ⟨m',NW,hvs⟩:=hopen w w κ1 κ3 (fun _=>default) (0,[]) vals hrel1 (.inl fun b hb=>⟨by
   cases e:κ b with
   | none=>simp[κ1,e] at hb
   | some x=>cases x with
    | imm=>simp[κ3,e]
    | key K=>simp[κ1,e] at hb,rfl⟩) (fun q b k hb hgq=>⟨by
   cases e:κ b with
   | none=>simp[κ1,e] at hb
   | some x=>cases x with
    | imm=>simp[κ1,e] at hb
    | key K=>
     simp only[κ1,e,List.nil_append,Option.some.injEq,G.key.injEq,Prod.mk.injEq,true_and] at hb
     simp only[κ3,e]
     rw[hb,hgq],rfl⟩)
  have hI3:∀ b,κ b=some .imm→κ3 b=some .imm:=fun b hb=>by simp[κ3,hb]
  have hlen:vals.length=args.length:=by
   obtain ⟨h1,_⟩:=relL_get hrel1
   exact h1
  have hlen2:vs.length=vals.length:=(relL_get hvs).1.symm
  let a0:Act:={tmps:=vals.toArray++Array.replicate (fn.ntmps - vals.toArray.size) undef,defers:=[]}
  have R0:Rel w κ3 m' n' (slots (number 0 vs)) h' a0:=by
   refine ⟨fun t v ht=>?_,fun id b hb=>?_,fun b x hb=>?_,fun b id p hb=>?_⟩
   ·obtain ⟨_,ht⟩:=number_get ht
    have ht:vs[t]?=some v:=by simpa using ht
    have hlt:t < vals.length:=by have:=(List.getElem?_eq_some_iff.1 ht).1;omega
    refine ⟨by simp[a0];omega,?_⟩
    have:=(relL_get hvs).2 t v vals[t] ht (List.getElem?_eq_getElem hlt)
    have e:a0.tmps.getD t undef=vals[t]:=by
     simp[a0,Array.getD_eq_getD_getElem?,Array.getElem?_append,hlt]
    rw[e]
    exact relV_move (fun b hb=>⟨hb,rfl⟩) (fun _ _ h=>h) v _ _ _ (by simp[kid,KeyMap]) this
   ·by_cases hlt:id < n'
    ·obtain ⟨B,e1,e2⟩:=NW.blk id (Nat.zero_le _) hlt
     rw[hb] at e1
     injection e1 with e1
     subst e1
     exact ⟨hlt,e2 _⟩
    ·have:=NW.old id (by omega)
     rw[hb] at this
     simp[heap] at this
   ·cases e:κ b with
    | none=>simp[κ3,e] at hb
    | some x'=>exact hlow b x' e
   ·cases e:κ b with
    | none=>simp[κ3,e] at hb
    | some x'=>cases x' with
     | imm=>simp[κ3,e] at hb
     | key K=>
      simp only[κ3,e] at hb
      split at hb
      ·rename_i k hgk
       injection hb with hb
       injection hb with hb
       subst hb
       exact (hg _ _ hgk).1.2
      ·cases hb
  have ST0:Stp κ w κ3 w:=⟨rfl,rfl,rfl,Nat.le_refl _,fun _ _ _=>rfl,hI3,fun b _ hb=>(by simp[κ3,hb]),fun _ C _ _ h=>⟨C,h,rfl⟩⟩
  have hrun:(callFunc f vals.toArray).run P w= .ok (.enter f vals.toArray) w:=by
   have hname':fn.name≠ "runtime.NumGoroutine" :=by simpa using hname
   simp[callFunc,hf,hname',hb,go_sem]
  unfold callRun
  rw[hrun]
  refine calls_of_wp hf hb ?_
  let FM:Fm:=⟨a0.tmps.size,(· ∈outsJ 0 outs),fun j=>a0.tmps.getD j undef⟩
  refine wp_mono (ewpR_sound (cut:=cut) (M:=FM) (κ0:=κ) (w0:=w) T HC hm (by simp[FM,a0];omega) (fun j hj=>hj) c hc hk ⟨R0,rfl,rfl,fun _ _=>rfl⟩ ST0) fun e a' w' hq=>?_
  have fin:∀ {n:Nat} {s:Slots} {h:Heap} {κ':Gh} {m:Nat→Addr},St FM w' κ' m n s h a'→Stp κ w κ' w'→(resultsV tt fn.results.toList n s h fun rs h=>closeV 40 .mv h [] (tuple rs) fun r h vis=>(match vis with | []=>Sim r res∧outsK h s 0 outs | _=>False))→
    a'.defers=[]∧∃ v,(results fn a'.tmps).run P w'= .ok v w'∧∃ v',Ending.returned v= .returned v'∧∃ κf,relV w' κf noL (some (args.length,[])) res v'∧relOuts w' κf 0 outs vals∧Stp κ w κf w'∧(∀ b g,κf b=some g→b < w'.heap.size)∧(∀ b id p,κf b=some (.key (id,p))→id≤args.length):=by
   intro n s h κ' m S ST hk
   obtain ⟨rs,us,n1,h1,κ1',m1,hk,R1,ST1,_,hr,hl,hrun⟩:=results_sound T S.rel hk
   have S:St FM w' κ1' m1 n1 s h1 a':=⟨R1,S.fr⟩
   have ST:=ST.trans ST1
   clear ST1 R1
   have hsz:us.toArray.size=rs.length:=by
    have:=(relL_get (hr 0)).1
    simpa using this
   obtain ⟨r,h2,vis,T1,F1,V1,hk,c1,r1,_⟩:=closeV_sound S.rel (rk:=(args.length,[])) (N:=args.length+1) (Nat.lt_succ_self _) (Sub.refl h1) (resVal hr hsz) hk
   split at hk
   ·obtain ⟨hsim,hk⟩:=hk
    have:=noV c1
    subst this
    obtain ⟨T2,F2,h5,c2,ih⟩:=outsK_sound S.rel (N:=args.length) (us:=vals) (outs:=outs) (j:=0) (by omega) c1.sub (fun i o u ho hu=>by
     rw[S.fr.kept _ (outsJ_mem ho)]
     have hlt:i < vals.length:=(List.getElem?_eq_some_iff.1 hu).1
     have e:vals[i]=u:=by rw[List.getElem?_eq_getElem hlt] at hu;injection hu
     simp[FM,a0,Array.getD_eq_getD_getElem?,Array.getElem?_append,hlt,e]) hk
    have cc:=c1.trans (c2.lift (Nat.le_succ _))
    have SP:Spec κ1' (callG κ1' (T1++T2) ((F1++F2)++([]++[]))) (T1++T2) (F1++F2) ([]++[]):=spec_callG cc.nodup cc.apart (fun i hi=>by simp at hi)
    have SL:=Spec.left SP
    have SR:=Spec.right SP
    obtain ⟨κ1,x1,hro⟩:=ih _ SR
    have hrv:relV w' κ1 noL (some (args.length,[])) r _:=relV_move (x1.imm w') (fun _ _ h=>h) r _ _ _ (x1.keyMap w' fun q hS=>Nat.lt_irrefl _ hS.2) (r1 _ SL)
    obtain ⟨κ2,x2,hrv2⟩:=Sim_sound w' hsim noL κ1 (args.length,[]) _ hrv
    have hro2:relOuts w' κ2 0 outs vals:=relOuts_move (x2.imm w') (fun j' _ hj=>x2.keyMap w' fun q hS=>by
     obtain ⟨q',e⟩:=hS
     have e:=congrArg Prod.fst e
     simp at e
     omega) hro
    have xx:Fz (callG κ1' (T1++T2) ((F1++F2)++([]++[]))) κ2 (fun _=>True):=(x1.mono fun _ _=>trivial).trans (x2.mono fun _ _=>trivial)
    have hcg:∀ b,callG κ1' (T1++T2) ((F1++F2)++([]++[])) b≠none→κ1' b≠none:=fun b hb e=>hb (by simp[callG,e])
    have hkey:∀ b K,callG κ1' (T1++T2) ((F1++F2)++([]++[])) b=some (.key K)→K.1≤args.length:=fun b K hb=>by
     unfold callG at hb
     split at hb
     ·rename_i K0 hK0
      split at hb
      ·rename_i y hy
       injection hb with hb
       injection hb with hb
       have:=(cc.tk y (List.mem_of_find?_eq_some hy)).2.2 K0.2
       rw[hb] at this
       omega
      ·split at hb<;>cases hb
     ·rename_i hne
      exact absurd hb (hne _)
    refine ⟨S.fr.defers,_,?_,_,rfl,κ2,hrv2,hro2,ST.trans ⟨rfl,rfl,rfl,Nat.le_refl _,fun _ _ _=>rfl,fun b hb=>(xx.imm w' b (SP.imm b hb)).1,fun b _ hb=>?_,fun _ C _ _ h=>⟨C,h,rfl⟩⟩,fun b x hb=>?_,fun b id p hb=>?_⟩
    ·unfold results
     rw[Array.mapM_eq_mapM_toList]
     have e2:∀ X:Sem (List Value),(List.toArray <$>X).run P w'=(X.run P w').andThen fun l w=> .ok l.toArray w:=fun X=>by
      show Sem.run P (X>>=fun l=>pure l.toArray) w'=_
      simp only[Sem.run_bind,Sem.run_pure]
     rw[Sem.run_bind,e2]
     refine (congrArg (fun r=>Result.andThen (Result.andThen r fun l w=> .ok l.toArray w) _) hrun).trans ?_
     simp only[Result.andThen_ok,Sem.run_pure]
    ·rcases xx b with e | ⟨_,K,_,e⟩
     ·rw[e];simp[callG,hb]
     ·simp[callG,hb] at e
    ·cases e:κ1' b with
     | some x'=>exact S.rel.low b x' e
     | none=>
      rcases xx b with e2 | ⟨_,K,_,e2⟩
      ·rw[e2] at hb;simp[callG,e] at hb
      ·simp[callG,e] at e2
    ·rcases xx b with e2 | ⟨e2,_⟩
     ·rw[e2] at hb;exact hkey b _ hb
     ·rw[e2] at hb;cases hb
   ·exact hk.elim
  cases e with
  | normal=>
   obtain ⟨n,s,h,κ',m,hk,S,ST⟩:=hq
   exact fin S ST hk
  | ret=>
   obtain ⟨n,s,h,κ',m,hk,S,ST⟩:=hq
   exact fin S ST hk
  | exit i=>
   obtain ⟨n,s,h,κ',m,hk,S,ST⟩:=hq
   exact hk.elim
  | _=>exact (show False from hq).elim
end
end Go.Proofs.VI
end
section
set_option linter.unusedVariables false
set_option linter.unusedSimpArgs false
namespace Go.Proofs.VI
open Go
mutual
inductive Le:AV→AV→Prop
 | refl (v:AV):Le v v
 | nilr (k:Nat):Le .nils (.ro k [])
 | nilo (k:Nat):Le .nils (.ow k [])
 | ron (k k':Nat):Le (.ro k []) (.ro k' [])
 | anyr (k:Nat) (rows:List (List AV)):Le (.ro k rows) .ifc
 | anyn:Le .nils .ifc
 | tt:Le .tt (.bool true)
 | ff:Le .ff (.bool false)
 | agg {l l':List AV}:LeL l l'→Le (.agg l) (.agg l')
 | pb {l l':List AV}:LeL l l'→Le (.pb l) (.pb l')
 | ro {k:Nat} {l l':List (List AV)}:LeR l l'→Le (.ro k l) (.ro k l')
inductive LeL:List AV→List AV→Prop
 | refl (l:List AV):LeL l l
 | cons {a b:AV} {l m:List AV}:Le a b→LeL l m→LeL (a::l) (b::m)
inductive LeR:List (List AV)→List (List AV)→Prop
 | refl (l:List (List AV)):LeR l l
 | cons {a b:List AV} {l m:List (List AV)}:LeL a b→LeR l m→LeR (a::l) (b::m)
end
theorem LeL.len:∀ {l m:List AV},LeL l m→l.length=m.length
 | _,_,.refl l=>rfl
 | _,_,.cons y z=>by simp[LeL.len z]
theorem LeR.len:∀ {l m:List (List AV)},LeR l m→l.length=m.length
 | _,_,.refl l=>rfl
 | _,_,.cons y z=>by simp[LeR.len z]
mutual
theorem Le.rel {w:World} {κ:Gh} {L:AV→Value→Prop} {a b:AV} (x:Le a b) (K:Option Key) (u:Value) (h:relV w κ L K a u):relV w κ L K b u:=by
 cases x with
 | refl v=>exact h
 | nilr k=>obtain ⟨A,rfl⟩:=h;exact ⟨A,0,rfl,Nat.le_refl _,.inl rfl⟩
 | nilo k=>obtain ⟨A,rfl⟩:=h;exact ⟨A,0,rfl,Nat.le_refl _,.inl rfl⟩
 | ron k k'=>obtain ⟨A,cap,hu,hl,_⟩:=h;exact ⟨A,cap,hu,hl,.inl rfl⟩
 | anyr k rows=>obtain ⟨A,cap,hu,_⟩:=h;rw[hu];rfl
 | anyn=>obtain ⟨A,hu⟩:=h;rw[hu];rfl
 | tt=>exact h
 | ff=>exact h
 | agg y=>obtain ⟨vs,hu,h⟩:=h;exact ⟨vs,hu,LeL.rel y K 0 vs h⟩
 | pb y=>
  obtain ⟨b,off,C,t,fr,hu,hb,hf,hk,hr⟩:=h
  exact ⟨b,off,C,t,fr,hu,hb,hf,hk,LeL.row y K 0 0 C off hr⟩
 | ro y=>
  obtain ⟨A,cap,hu,hl,hr⟩:=h
  refine ⟨A,cap,by rw[←LeR.len y];exact hu,by rw[←LeR.len y];exact hl,?_⟩
  rcases hr with e | ⟨b,off,C,t,fr,h1,h2,h3,h4⟩
  ·exact .inl (List.eq_nil_of_length_eq_zero (by rw[←LeR.len y,e];rfl))
  ·exact .inr ⟨b,off,C,t,fr,h1,h2,h3,LeR.rel y none _ 0 C off h4⟩
theorem LeL.rel {w:World} {κ:Gh} {L:AV→Value→Prop} {l m:List AV} (x:LeL l m) (K:Option Key) (c:Nat) (us:List Value) (h:relL w κ L K c l us):relL w κ L K c m us:=by
 cases x with
 | refl v=>exact h
 | cons y z=>
  obtain ⟨u,us',rfl,h1,h2⟩:=h
  exact ⟨u,us',rfl,Le.rel y _ u h1,LeL.rel z K _ us' h2⟩
theorem LeL.row {w:World} {κ:Gh} {l m:List AV} (x:LeL l m) (K:Option Key) (r c:Nat) (C:Array Value) (o:Nat) (h:relRow w κ K r c l C o):relRow w κ K r c m C o:=by
 cases x with
 | refl v=>exact h
 | cons y z=>
  obtain ⟨⟨u,hu,h1⟩,h2⟩:=h
  exact ⟨⟨u,hu,Le.rel y _ u h1⟩,LeL.row z K r _ C _ h2⟩
theorem LeR.rel {w:World} {κ:Gh} {l m:List (List AV)} (x:LeR l m) (K:Option Key) (k r:Nat) (C:Array Value) (o:Nat) (h:relRs w κ K k r l C o):relRs w κ K k r m C o:=by
 cases x with
 | refl v=>exact h
 | cons y z=>
  obtain ⟨h0,h1,h2⟩:=h
  exact ⟨by rw[←LeL.len y];exact h0,LeL.row y K r 0 C o h1,LeR.rel z K k _ C _ h2⟩
end
theorem LeL.relA {w:World} {κ:Gh}:∀ {l m:List AV} (x:LeL l m) (j:Nat) (us:List Value),relA w κ j l us→relA w κ j m us
 | _,_,.refl l,j,us,h=>h
 | _,_,.cons y z,j,us,h=>by
  obtain ⟨u,us',rfl,h1,h2⟩:=h
  exact ⟨u,us',rfl,y.rel _ u h1,LeL.relA z (j+1) us' h2⟩
theorem Contract.le {P:Program} {f:FuncId} {args args':List AV} {res:AV} {outs:List (Option AV)} (x:LeL args args') (h:Contract P f args' res outs):Contract P f args res outs:=by
 intro κ w vals h1 h2 h3
 rw[x.len] at h2⊢
 exact h κ w vals h1 h2 (x.relA 0 vals h3)
def nbC:AV→AV
 | .tt=> .bool true
 | .ff=> .bool false
 | v=>v
def nbL:List AV→List AV
 | []=>[]
 | v::l=>nbC v::nbL l
def nbA:AV→AV
 | .agg l=> .agg (nbL l)
 | .pb l=> .pb (nbL l)
 | v=>nbC v
def nbAs:List AV→List AV
 | []=>[]
 | v::l=>nbA v::nbAs l
def nb:AV→AV
 | .tup l=> .tup (nbAs l)
 | v=>nbA v
theorem nbC_sim (v:AV):Sim v (nbC v):=by
 cases v<;>first | exact .tt | exact .ff | exact .refl _
theorem nbL_sim:∀ l:List AV,SimL l (nbL l)
 | []=> .refl _
 | v::l=> .cons (nbC_sim v) (nbL_sim l)
theorem nbA_sim (v:AV):Sim v (nbA v):=by
 cases v<;>first | exact .agg (nbL_sim _) | exact .pb (nbL_sim _) | exact nbC_sim _
theorem nbAs_sim:∀ l:List AV,SimL l (nbAs l)
 | []=> .refl _
 | v::l=> .cons (nbA_sim v) (nbAs_sim l)
theorem nb_sim (v:AV):Sim v (nb v):=by
 cases v<;>first | exact .tup (nbAs_sim _) | exact nbA_sim _
theorem Sim.nb {v r:AV} (h:nb v=r):Sim v r:=h▸nb_sim v
theorem nbC_rel {w:World} {κ:Gh} {L:AV→Value→Prop} {v:AV} {K:Option Key} {u:Value}:relV w κ L K (nbC v) u↔relV w κ L K v u:=by
 cases v<;>exact Iff.rfl
theorem nbL_rel {w:World} {κ:Gh} {L:AV→Value→Prop} {K:Option Key}:∀ {l:List AV} {c:Nat} {us:List Value},relL w κ L K c (nbL l) us↔relL w κ L K c l us
 | [],c,us=>Iff.rfl
 | v::l,c,us=>by
  constructor
  ·rintro ⟨u,us',e,h1,h2⟩;exact ⟨u,us',e,nbC_rel.1 h1,nbL_rel.1 h2⟩
  ·rintro ⟨u,us',e,h1,h2⟩;exact ⟨u,us',e,nbC_rel.2 h1,nbL_rel.2 h2⟩
theorem nbRow_rel {w:World} {κ:Gh} {K:Option Key}:∀ {l:List AV} {r c:Nat} {C:Array Value} {o:Nat},relRow w κ K r c (nbL l) C o↔relRow w κ K r c l C o
 | [],r,c,C,o=>Iff.rfl
 | v::l,r,c,C,o=>by
  constructor
  ·rintro ⟨⟨u,e,h1⟩,h2⟩;exact ⟨⟨u,e,nbC_rel.1 h1⟩,nbRow_rel.1 h2⟩
  ·rintro ⟨⟨u,e,h1⟩,h2⟩;exact ⟨⟨u,e,nbC_rel.2 h1⟩,nbRow_rel.2 h2⟩
theorem nbA_rel {w:World} {κ:Gh} {L:AV→Value→Prop} {v:AV} {K:Option Key} {u:Value}:relV w κ L K (nbA v) u↔relV w κ L K v u:=by
 cases v
 case agg l=>
  constructor
  ·rintro ⟨vs,e,h⟩;exact ⟨vs,e,nbL_rel.1 h⟩
  ·rintro ⟨vs,e,h⟩;exact ⟨vs,e,nbL_rel.2 h⟩
 case pb l=>
  constructor
  ·rintro ⟨b,off,C,t,fr,h1,h2,h3,h4,h5⟩;exact ⟨b,off,C,t,fr,h1,h2,h3,h4,nbRow_rel.1 h5⟩
  ·rintro ⟨b,off,C,t,fr,h1,h2,h3,h4,h5⟩;exact ⟨b,off,C,t,fr,h1,h2,h3,h4,nbRow_rel.2 h5⟩
 all_goals exact Iff.rfl
theorem nbAs_rel {w:World} {κ:Gh} {L:AV→Value→Prop} {K:Option Key}:∀ {l:List AV} {c:Nat} {us:List Value},relL w κ L K c (nbAs l) us↔relL w κ L K c l us
 | [],c,us=>Iff.rfl
 | v::l,c,us=>by
  constructor
  ·rintro ⟨u,us',e,h1,h2⟩;exact ⟨u,us',e,nbA_rel.1 h1,nbAs_rel.1 h2⟩
  ·rintro ⟨u,us',e,h1,h2⟩;exact ⟨u,us',e,nbA_rel.2 h1,nbAs_rel.2 h2⟩
theorem nb_rel {w:World} {κ:Gh} {L:AV→Value→Prop} {v:AV} {K:Option Key} {u:Value}:relV w κ L K (nb v) u↔relV w κ L K v u:=by
 cases v
 case tup l=>
  constructor
  ·rintro ⟨vs,e,h⟩;exact ⟨vs,e,nbAs_rel.1 h⟩
  ·rintro ⟨vs,e,h⟩;exact ⟨vs,e,nbAs_rel.2 h⟩
 all_goals first | exact Iff.rfl | exact nbA_rel (v:= .agg _) | exact nbA_rel (v:= .pb _)
theorem Contract.nbr {P:Program} {f:FuncId} {args:List AV} {res res':AV} {outs:List (Option AV)} (e:nb res'=nb res) (h:Contract P f args res outs):Contract P f args res' outs:=by
 intro κ w vals h1 h2 h3
 refine callRun_mono (fun v w' hq=>?_) (h κ w vals h1 h2 h3)
 obtain ⟨κ',a,b⟩:=hq
 exact ⟨κ',nb_rel.1 (by rw[e];exact nb_rel.2 a),b⟩
theorem nbAs_relA {w:World} {κ:Gh}:∀ {l:List AV} {j:Nat} {us:List Value},relA w κ j (nbAs l) us↔relA w κ j l us
 | [],j,us=>Iff.rfl
 | v::l,j,us=>by
  constructor
  ·rintro ⟨u,us',e,h1,h2⟩;exact ⟨u,us',e,nbA_rel.1 h1,nbAs_relA.1 h2⟩
  ·rintro ⟨u,us',e,h1,h2⟩;exact ⟨u,us',e,nbA_rel.2 h1,nbAs_relA.2 h2⟩
theorem nbAs_len:∀ l:List AV,(nbAs l).length=l.length
 | []=>rfl
 | v::l=>by simp[nbAs,nbAs_len l]
theorem Contract.nba {P:Program} {f:FuncId} {args args':List AV} {res:AV} {outs:List (Option AV)} (e:nbAs args'=nbAs args) (h:Contract P f args res outs):Contract P f args' res outs:=by
 intro κ w vals h1 h2 h3
 have hl:args'.length=args.length:=by rw[←nbAs_len args',e,nbAs_len]
 rw[hl] at h2⊢
 exact h κ w vals h1 h2 (nbAs_relA.1 (by rw[←e];exact nbAs_relA.2 h3))
end Go.Proofs.VI
end
section
set_option linter.unusedVariables false
set_option linter.unusedSimpArgs false
namespace Go.Proofs.VI
open Go
section
variable {P:Program} {w w' w0:World} {κ κ' κ0 κ3 κc:Gh} {m m':Nat→Addr} {n n' N:Nat} {M:Fm} {s s':Slots} {h h':Heap} {a:Act} {L L' L0:AV→Value→Prop} {tt:TypeId→Option TI} {C:FuncId→List AV→AV→List (Option AV)→Prop} {cut:Nat→Bool}
def UpK (K:Nat→Slots→Heap→Prop) (N:Fm) (κ0:Gh) (w0:World) (L0:AV→Value→Prop) (a:Act) (w:World):Prop:=∃ n s h κ m,K n s h∧St N w κ m n s h a∧Stp κ0 w0 κ w∧∀ v u,L0 v u→liveV w κ m n h v u
def UpXK (Q:Nat→Ex→Slots→Heap→Prop) (M:Fm) (κ0:Gh) (w0:World) (L0:AV→Value→Prop) (e:Exit) (a:Act) (w:World):Prop:=match e with
 | .normal=>UpK (fun n s h=>Q n .normal s h) M κ0 w0 L0 a w
 | .exit i=>UpK (fun n s h=>Q n (.exit i) s h) M κ0 w0 L0 a w
 | .ret=>UpK (fun n s h=>Q n .ret s h) M κ0 w0 L0 a w
 | _=>False
theorem aopsK_sound (T:TOk P tt) (HC:∀ f args res outs,C f args res outs→Contract P f args res outs) {opsA:Array Oper} {Q:Exit→Act→World→Prop} {K:Nat→Slots→Heap→Prop} (hQ:∀ a w,UpK K M κ0 w0 L0 a w→Q .normal a w):
  ∀ {ops:List Oper} {n:Nat} {s:Slots} {h:Heap} {κ:Gh} {m:Nat→Addr} {a:Act} {w:World},aops C tt opsA.toList n ops s h K→St M w κ m n s h a→Stp κ0 w0 κ w→(∀ v u,L0 v u→liveV w κ m n h v u)→(∀ o∈ops,∀ d,o.dst=some d→M.ok d)→wpList P opsA Q ops a w
 | [],n,s,h,κ,m,a,w,hk,S,ST,hL,hb=>hQ a w ⟨n,s,h,κ,m,hk,S,ST,hL⟩
 | o::rest,n,s,h,κ,m,a,w,hk,S,ST,hL,hb=>by
  have hb':∀ o∈rest,∀ d,o.dst=some d→M.ok d:=fun o ho=>hb o (List.mem_cons_of_mem _ ho)
  have hd:=hb o (List.mem_cons_self ..)
  have yes:∀ {s:Slots},St M w κ m n s h a→Region.wanted o (yielded opsA a.tmps)=true→aop C tt n o s h (fun _ n v h=>aops C tt opsA.toList n rest (put s o.dst v) h K)→wpList P opsA Q (o::rest) a w:=fun {s} S hw hk=>by
   unfold wpList
   rw[if_pos hw]
   refine .inl (Oper.wp_mono2 (fun a' w' hp=>?_) (fun _ _ _ h=>h) (aop_sound T HC S.rel hk))
   obtain ⟨f,n',v,h',κ',m',u,hk,hn,rfl,hv,R,S',_,_,hL'⟩:=hp
   exact aopsK_sound T HC hQ hk (St.put ⟨R,S.fr⟩ hd hv) (ST.trans S') (fun v u hv=>hL' v u (hL v u hv)) hb'
  have no:∀ {s:Slots},St M w κ m n s h a→Region.wanted o (yielded opsA a.tmps)=false→aops C tt opsA.toList n rest (put s o.dst (.tup [])) h K→wpList P opsA Q (o::rest) a w:=fun {s} S hw hk=>by
   unfold wpList
   rw[if_neg (by rw[hw];simp)]
   exact aopsK_sound T HC hQ hk (St.put S hd tup_rel) ST hL hb'
  simp only[aops] at hk
  split at hk
  ·rename_i hg
   exact yes S (by simp[Region.wanted,hg]) hk
  ·rename_i j want hg
   split at hk
   ·rename_i oj hj
    split at hk
    ·rename_i d hdj
     split at hk
     ·rename_i b hsd
      obtain ⟨hlt,hrel⟩:=S.rel.slot d b hsd
      split at hk
      ·have hrel:a.tmps.getD d undef= .bool true:=hrel
       cases want with
       | true=>exact yes S (wanted_yes hg hj hdj hlt hrel) hk
       | false=>exact no S (wanted_no hg hj hdj hlt (by rw[hrel];simp)) hk
      ·have hrel:a.tmps.getD d undef= .bool false:=hrel
       cases want with
       | false=>exact yes S (wanted_yes hg hj hdj hlt hrel) hk
       | true=>exact no S (wanted_no hg hj hdj hlt (by rw[hrel];simp)) hk
      ·rename_i b
       have hrel:a.tmps.getD d undef= .bool b:=hrel
       have St':∀ v',norm v'= .bool b→St M w κ m n (put s (some d) v') h a:=fun v' hv'=>⟨S.rel.retell (put_norm hsd hv'),S.fr⟩
       cases want with
       | true=>
        cases b with
        | true=>exact yes (St' .tt rfl) (wanted_yes hg hj hdj hlt hrel) (hk.1 rfl)
        | false=>exact no (St' .ff rfl) (wanted_no hg hj hdj hlt (by rw[hrel];simp)) (hk.2 rfl)
       | false=>
        cases b with
        | false=>exact yes (St' .ff rfl) (wanted_yes hg hj hdj hlt hrel) (hk.1 rfl)
        | true=>exact no (St' .tt rfl) (wanted_no hg hj hdj hlt (by rw[hrel];simp)) (hk.2 rfl)
      ·obtain ⟨vs,hu,hvs⟩:=hrel
       exact no S (wanted_no hg hj hdj hlt (by rw[hu];simp)) hk
      ·exact hk.elim
     ·exact hk.elim
    ·exact hk.elim
   ·exact hk.elim
theorem drawn_anyK (T:TOk P tt) (HC:∀ f args res outs,C f args res outs→Contract P f args res outs) {opsA:Array Oper} {es:List Ent} {s0:Slots} {h0:Heap} {n0 n2:Nat} {M:Fm} {log2:List Log} (TR:Trace C tt opsA.toList 0 opsA.toList es s0 h0 n0 [] n2 log2) (hreg:regOk opsA log2=true)
  (hdst:∀ o∈opsA.toList,∀ d,o.dst=some d→M.ok d) {Q:Exit→Act→World→Prop}
  (hQ:∀ a w κ m,St M w κ m n2 (sAt (fun _=>true) 0 es s0) (hAt (fun _=>true) 0 es h0) a→Stp κ0 w0 κ w→(∀ v u,L0 v u→liveV w κ m n2 (hAt (fun _=>true) 0 es h0) v u)→Q .normal a w):
  ∀ (fuel:Nat) (listed:Array Bool) (κ:Gh) (m:Nat→Addr) (a:Act) (w:World),listed.size=opsA.size→cnt listed.toList≤fuel→
   (∀ i,listD listed i=true→∀ k,((Region.before opsA).getD i 0).testBit k=true→listD listed k=true)→
   RelN (AD n0 es (listD listed)) w κ m n2 (sAt (listD listed) 0 es s0) (hAt (listD listed) 0 es h0) a→Fr M a→Stp κ0 w0 κ w→(∀ v u,L0 v u→liveV w κ m n2 (hAt (listD listed) 0 es h0) v u∧nameOk (AD n0 es (listD listed)) v)→wpAny P .any opsA Q fuel listed a w:=by
 simp only[regOk,Bool.and_eq_true] at hreg
 obtain ⟨rg1,rg2,rg3⟩:=hreg
 obtain ⟨tl,tn,tat⟩:=Trace_at TR
 have eget:∀ (i:Nat) (o:Oper),opsA[i]?=some o→∃ e:Ent,es[i]?=some e∧e.o=o:=fun i o hi=>by
  have hi':opsA.toList[i]?=some o:=by simpa using hi
  have hlt:i < es.length:=by rw[←tl];exact (List.getElem?_eq_some_iff.1 hi').1
  refine ⟨es[i],List.getElem?_eq_getElem hlt,?_⟩
  have:=(tat i es[i] (List.getElem?_eq_getElem hlt)).1
  rw[hi'] at this
  injection this with this
  exact this.symm
 have oget:∀ (i:Nat) (e:Ent),es[i]?=some e→opsA[i]?=some e.o:=fun i e hi=>by simpa using (tat i e hi).1
 have hslot:∀ {i k:Nat} {e e':Ent} {t:Nat},es[i]?=some e→es[k]?=some e'→e'.o.dst=some t→t∈namesO opsA e.o→ordered (Region.before opsA) k i=true:=fun {i k e e' t} hi hk hd ht=>by
  have:=slotsOk_at rg2 k e'.o t (by simpa using oget k e' hk) hd i (namesO opsA e.o) (by rw[List.getElem?_map];have:=oget i e hi;simp only[Array.getElem?_toList,this];rfl) ht
  rwa [Nat.zero_add] at this
 have ord_lt:∀ {k i:Nat},ordered (Region.before opsA) k i=true→k < i→((Region.before opsA).getD i 0).testBit k=true:=fun {k i} ho hlt=>by
  unfold ordered at ho
  rw[bltT.2 hlt] at ho
  exact ho
 have ord_gt:∀ {k i:Nat},ordered (Region.before opsA) k i=true→i < k→((Region.before opsA).getD k 0).testBit i=true:=fun {k i} ho hlt=>by
  unfold ordered at ho
  have:Nat.blt k i=false:=ltB_false (i:=i) (x:=k) (by omega)
  rw[this,bltT.2 hlt] at ho
  exact ho
 have allD:∀ (listed:Array Bool) (κ:Gh) (m:Nat→Addr) (a:Act) (w:World),(∀ k,k < opsA.size→listD listed k=true)→RelN (AD n0 es (listD listed)) w κ m n2 (sAt (listD listed) 0 es s0) (hAt (listD listed) 0 es h0) a→Fr M a→Stp κ0 w0 κ w→(∀ v u,L0 v u→liveV w κ m n2 (hAt (listD listed) 0 es h0) v u∧nameOk (AD n0 es (listD listed)) v)→Q .normal a w:=fun listed κ m a w hall R hfr ST hG=>by
  have hes:∀ (k:Nat) (e:Ent),es[k]?=some e→k < opsA.size:=fun k e he=>by
   have:=(List.getElem?_eq_some_iff.1 he).1
   rw[←tl] at this
   simpa using this
  have e1:sAt (listD listed) 0 es s0=sAt (fun _=>true) 0 es s0:=by
   funext t
   exact sAt_agree rfl fun k e he _=>by rw[Nat.zero_add];exact hall k (hes k e he)
  have e2:hAt (listD listed) 0 es h0=hAt (fun _=>true) 0 es h0:=by
   funext t
   exact hAt_agree rfl fun k e he _=>by rw[Nat.zero_add];exact hall k (hes k e he)
  rw[e1,e2] at R
  rw[e2] at hG
  exact hQ a w κ m ⟨R.rel,hfr⟩ ST fun v u h=>(hG v u h).1
 have ready_nil:∀ (listed:Array Bool),listed.size=opsA.size→Region.ready .any opsA listed=[]→∀ k,k < opsA.size→listD listed k=true:=fun listed hsz hr k=>by
  induction k using Nat.strongRecOn with
  | _ k ih=>
   intro hk
   cases hd:listD listed k with
   | true=>rfl
   | false=>
    exfalso
    have:k∈Region.ready .any opsA listed:=mem_ready.2 ⟨by
     have hd:listed.getD k false=false:=hd
     simp only[Array.getD,hsz,hk,dif_pos] at hd⊢
     exact hd,opsA[k],Array.getElem?_eq_getElem hk,fun e he hb=>by
      have:=edgesOk_at rg1 k opsA[k] (by simp[hk]) e he hb
      exact ih e.on (by omega) (by omega)⟩
    rw[hr] at this
    simp at this
 intro fuel
 induction fuel with
 | zero=>
  intro listed κ m a w hsize hcnt hcl R hfr ST hG
  have hall:∀ k,k < opsA.size→listD listed k=true:=fun k hk=>by
   have:listed.toList[k]?=some (listed[k]'(by omega)):=by simp[hsize,hk]
   have:=cnt_zero (Nat.le_zero.1 hcnt) k _ this
   simp[listD,Array.getD,hsize,hk,this]
  refine ⟨?_,allD listed κ m a w hall R hfr ST hG⟩
  cases hr:Region.ready .any opsA listed with
  | nil=>rfl
  | cons i r=>
   exfalso
   have hi:i∈Region.ready .any opsA listed:=by rw[hr];exact List.mem_cons_self ..
   obtain ⟨h1,o,h2,_⟩:=mem_ready.1 hi
   have hlt:=(Array.getElem?_eq_some_iff.1 h2).1
   have:=hall i hlt
   simp only[listD,Array.getD,hsize,hlt,dif_pos] at this h1
   rw[this] at h1;cases h1
 | succ fuel ihf=>
  intro listed κ m a w hsize hcnt hcl R hfr ST hG
  refine ⟨fun hr=>allD listed κ m a w (ready_nil listed hsize hr) R hfr ST hG,fun i hi=>?_⟩
  obtain ⟨hi1,o,hio,hedge⟩:=mem_ready.1 hi
  have hlt:=(Array.getElem?_eq_some_iff.1 hio).1
  obtain ⟨e,he,heo⟩:=eget i o hio
  subst heo
  obtain ⟨_,EO,en0,en2,eord,etile⟩:=tat i e he
  simp only[Nat.zero_add] at EO
  generalize hD:listD listed=D at R hcl hG
  have hDi:D i=false:=by
   rw[←hD]
   simp only[listD,Array.getD,hsize,hlt,dif_pos] at hi1⊢
   exact hi1
  have hBD:∀ k,((Region.before opsA).getD i 0).testBit k=true→D k=true:=fun k hk=>by
   obtain ⟨o',h1,e',h2,h3,h4⟩:=before_bit opsA hk
   rw[hio] at h1
   injection h1 with h1
   subst h1
   have hon:D e'.on=true:=by rw[←hD];exact hedge e' h2 h3
   rcases h4 with h4 | h4
   ·rw[h4];exact hon
   ·exact hcl _ hon _ h4
  have hlater:∀ k,((Region.before opsA).getD k 0).testBit i=true→D k=false:=fun k hk=>by
   cases hd:D k with
   | false=>rfl
   | true=>rw[hcl k hd i hk] at hDi;cases hDi
  let D':Nat→Bool:=listD (listed.setIfInBounds i true)
  have hD':∀ k,D' k=if k=i then true else D k:=fun k=>by rw[←hD];exact listD_set (by omega) k
  have hcl':∀ i',D' i'=true→∀ k,((Region.before opsA).getD i' 0).testBit k=true→D' k=true:=fun i' hi' k hk=>by
   rw[hD'] at hi'⊢
   by_cases ek:k=i
   ·rw[if_pos ek]
   ·rw[if_neg ek]
    by_cases ei:i'=i
    ·rw[ei] at hk;exact hBD k hk
    ·rw[if_neg ei] at hi';exact hcl i' hi' k hk
  have hcnt':cnt (listed.setIfInBounds i true).toList≤fuel:=by
   have:listed.toList[i]?=some false:=by
    have h1:i < listed.size:=by omega
    have:=hi1
    rw[Array.getD_eq_getD_getElem?] at this
    simp only[Array.getElem?_toList]
    simp only[h1,Array.getElem?_eq_getElem,Option.getD_some] at this⊢
    rw[this]
   have:=cnt_set this
   rw[Array.toList_setIfInBounds]
   omega
  have hsl:∀ t,t∈namesO opsA e.o→sAt D 0 es s0 t=sAt (ltB i) 0 es s0 t:=fun t ht=>sAt_agree rfl fun k e' hk hd=>by
   rw[Nat.zero_add]
   have ho:=hslot he hk hd ht
   by_cases h1:k < i
   ·rw[hBD k (ord_lt ho h1)];exact (ltB_iff.2 h1).symm
   ·rw[ltB_false h1]
    by_cases h2:k=i
    ·rw[h2];exact hDi
    ·exact hlater k (ord_gt ho (by omega))
  have hsl':∀ t,sAt D' 0 es s0 t=put (sAt D 0 es s0) e.o.dst e.v t:=fun t=>by
   rw[put_at]
   by_cases hd:e.o.dst=some t
   ·rw[if_pos hd]
    have h1:sAt D' 0 es s0 t=sAt (ltB (0+i+1)) 0 es s0 t:=sAt_agree rfl fun k e' hk hdk=>by
     rw[Nat.zero_add,hD']
     by_cases h2:k=i
     ·rw[if_pos h2,h2];exact (ltB_iff.2 (by omega)).symm
     ·rw[if_neg h2]
      have ho:=hslot he hk hdk (names_dst hd)
      by_cases h1:k < i
      ·rw[hBD k (ord_lt ho h1)];exact (ltB_iff.2 (by omega)).symm
      ·rw[ltB_false (by omega)];exact hlater k (ord_gt ho (by omega))
    rw[h1,sAt_succ he,put_at,if_pos hd]
   ·rw[if_neg hd]
    exact sAt_agree rfl fun k e' hk hdk=>by
     rw[Nat.zero_add,hD']
     by_cases h2:k=i
     ·subst h2;rw[he] at hk;injection hk with hk;subst hk;exact absurd hdk hd
     ·rw[if_neg h2]
  have hd:∀ t,e.o.dst=some t→M.ok t:=hdst e.o (List.mem_of_getElem? (by simpa using hio))
  have guardU:∀ {d:Nat} {want:Bool} {x:AV},gSlot opsA.toList e.o d want→(sAt (ltB i) 0 es s0 d).map norm=some x→d < a.tmps.size∧relV w κ (fun v u=>liveV w κ m n2 (hAt D 0 es h0) v u∧nameOk (AD n0 es D) v) none x (a.tmps.getD d undef):=fun {d want x} hg hx=>by
   rw[←hsl d (names_guard hg)] at hx
   cases hs:sAt D 0 es s0 d with
   | none=>rw[hs] at hx;cases hx
   | some y=>
    rw[hs] at hx
    simp only[Option.map_some,Option.some.injEq] at hx
    obtain ⟨r1,r2⟩:=R.slot d y hs
    refine ⟨r1,?_⟩
    rw[←hx]
    cases y<;>exact r2
  unfold wpOp
  rw[hio]
  cases hex:e.ex with
  | false=>
   obtain ⟨⟨d,want,hg,hval⟩,hv,hn'⟩:=EO.no hex
   have hno:Region.wanted e.o (yielded opsA a.tmps)=false:=by
    obtain ⟨j,oj,g1,g2,g3⟩:=hg
    rcases hval with hval | hval
    ·obtain ⟨r1,r2⟩:=guardU ⟨j,oj,g1,g2,g3⟩ hval
     have r2:a.tmps.getD d undef= .bool (!want):=r2
     exact wanted_no g1 g2 g3 r1 (by rw[r2];cases want<;>simp)
    ·obtain ⟨r1,r2⟩:=guardU ⟨j,oj,g1,g2,g3⟩ hval
     obtain ⟨vs,hu,_⟩:=r2
     exact wanted_no g1 g2 g3 r1 (by rw[hu];simp)
   simp only[hno,Bool.false_eq_true,if_false]
   have hwr:∀ j,wr e j=false:=fun j=>by simp[wr,hex]
   have hh:hAt D' 0 es h0=hAt D 0 es h0:=by
    funext j
    exact hAt_agree rfl fun k e' hk hw=>by
     rw[Nat.zero_add,hD']
     by_cases h2:k=i
     ·subst h2;rw[he] at hk;injection hk with hk;subst hk;rw[hwr] at hw;cases hw
     ·rw[if_neg h2]
   refine ihf _ κ m _ w (by simp[hsize]) hcnt' hcl' ?_ (hfr.put hd) ST (fun v u hl=>by
    have:=hG v u hl
    show liveV w κ m n2 (hAt D' 0 es h0) v u∧nameOk (AD n0 es D') v
    rw[hh]
    refine ⟨this.1,nameOk_mono (fun id hid=>?_) this.2⟩
    rcases hid with hid | ⟨k,e',h1,h2,h3⟩
    ·exact .inl hid
    ·refine .inr ⟨k,e',h1,?_,h3⟩
     rw[hD']
     split
     ·rfl
     ·exact h2)
   show RelN (AD n0 es D') w κ m n2 (sAt D' 0 es s0) (hAt D' 0 es h0) _
   rw[show sAt D' 0 es s0=put (sAt D 0 es s0) e.o.dst e.v from funext hsl',hh]
   refine RelN.put (R.mono (fun id hid=>?_) (fun id hid=>?_)) (fun t ht=>by rw[hfr.size];exact (hd t ht).1) (by rw[hv];exact tup_rel)
   ·rcases hid with hid | ⟨k,e',h1,h2,h3⟩
    ·exact .inl hid
    ·refine .inr ⟨k,e',h1,?_,h3⟩
     rw[hD']
     split
     ·rfl
     ·exact h2
   ·rcases hid with hid | ⟨k,e',h1,h2,h3⟩
    ·omega
    ·have:=(tat k e' h1).2.2.2.1
     omega
  | true=>
   obtain ⟨hg,y1,y⟩:=EO.yes hex
   have hyes:Region.wanted e.o (yielded opsA a.tmps)=true:=by
    rcases hg with hg | ⟨d,want,hg,hval⟩
    ·simp[Region.wanted,hg]
    ·obtain ⟨j,oj,g1,g2,g3⟩:=hg
     obtain ⟨r1,r2⟩:=guardU ⟨j,oj,g1,g2,g3⟩ hval
     exact wanted_yes g1 g2 g3 r1 r2
   simp only[hyes,if_true]
   have hconf:∀ {k:Nat} {e':Ent} {j:Nat},es[k]?=some e'→k≠i→wr e' j=true→(wr e j=true∨j∈e.F)→(if k < i then ((Region.before opsA).getD i 0).testBit k=true else ((Region.before opsA).getD k 0).testBit i=true):=fun {k e' j} hk hne hw hj=>by
    by_cases h1:k < i
    ·rw[if_pos h1]
     exact Trace_conf TR rg3 h1 hk he (.inl ⟨hw,hj.imp id fun hj=>⟨hex,hj⟩⟩)
    ·rw[if_neg h1]
     rcases hj with hj | hj
     ·exact Trace_conf TR rg3 (show i < k by omega) he hk (.inl ⟨hj,.inl hw⟩)
     ·exact Trace_conf TR rg3 (show i < k by omega) he hk (.inr ⟨hw,hex,hj⟩)
   have hDk:∀ {k:Nat} {e':Ent} {j:Nat},es[k]?=some e'→k≠i→wr e' j=true→(wr e j=true∨j∈e.F)→D k=ltB i k:=fun {k e' j} hk hne hw hj=>by
    have:=hconf hk hne hw hj
    by_cases h1:k < i
    ·rw[if_pos h1] at this
     rw[hBD k this];exact (ltB_iff.2 h1).symm
    ·rw[if_neg h1] at this
     rw[ltB_false h1];exact hlater k this
   have hheap:∀ j∈e.F,hAt D 0 es h0 j=hAt (ltB i) 0 es h0 j:=fun j hj=>hAt_agree rfl fun k e' hk hw=>by
    rw[Nat.zero_add]
    by_cases h2:k=i
    ·rw[h2,hDi];exact (ltB_false (by omega)).symm
    ·exact hDk hk h2 hw (.inr hj)
   have hFA:∀ j∈e.F,AD n0 es D j:=fun j hj=>by
    rcases etile j (y1 j hj) with c | ⟨k,e',h1,h2,h3,h4⟩
    ·exact .inl c
    ·refine .inr ⟨k,e',h1,?_,h3,h4⟩
     have hw:wr e' j=true:=by
      have hx:e'.ex=true:=by
       cases hx:e'.ex with
       | true=>rfl
       | false=>
        have:=((tat k e' h1).2.1.no hx).2.2
        omega
      simp[wr,hx,bleT.2 h3,bltT.2 h4]
     rw[hDk h1 (by omega) hw (.inr hj)]
     exact ltB_iff.2 h2
   have fr:e.o.wp P a w (fun a' w'=>∃ κ' m' u,a'=a.put e.o.dst u∧
     relV w' κ' (fun v u=>liveV w' κ' m' n2 (fun j=>bif (e.w&&mem j e.F)||(Nat.ble e.n j&&Nat.blt j e.n') then e.h' j else hAt D 0 es h0 j) v u∧nameOk (fun i=>AD n0 es D i∨(e.n≤i∧i < e.n')) v) none e.v u∧
     RelN (fun i=>AD n0 es D i∨(e.n≤i∧i < e.n')) w' κ' m' n2 (sAt D 0 es s0) (fun j=>bif (e.w&&mem j e.F)||(Nat.ble e.n j&&Nat.blt j e.n') then e.h' j else hAt D 0 es h0 j) a∧Stp κ w κ' w'∧
     ∀ v u,(liveV w κ m n2 (hAt D 0 es h0) v u∧nameOk (AD n0 es D) v)→liveV w' κ' m' n2 (fun j=>bif (e.w&&mem j e.F)||(Nat.ble e.n j&&Nat.blt j e.n') then e.h' j else hAt D 0 es h0 j) v u∧nameOk (fun i=>AD n0 es D i∨(e.n≤i∧i < e.n')) v) (fun _ _ _=>False):=by
    rcases y with ⟨y2,y3,y4,y5,y6⟩ | ⟨y2,y3,y4⟩ | ⟨j9,b9,y2,y3,y4,y5,y6,y7⟩
    ·rw[←restr_eq hheap] at y2
     refine frame_op (N:=n2) T HC R y2 (fun t ht=>by rw[EO.s_ t,hsl t (names_use ht)]) y1 y3 (fun j hj b hb=>by rw[hheap j hj] at hb;exact y4 j hj b hb) (fun id hid=>?_) hFA en2 y5 y6
     intro hnew
     rcases hid with hid | ⟨k,e',h1,h2,h3⟩
     ·omega
     ·have hki:k≠i:=fun e2=>by rw[e2,hDi] at h2;cases h2
      by_cases h4:k < i
      ·have:=(tat k e' h1).2.2.2.2.1 i e he h4;omega
      ·have:=eord k e' h1 (by omega);omega
    ·exact frame_lite (N:=n2) T R (lite_agree y2 hheap) y3 (y4.trans EO.n_.symm) (fun t ht=>by rw[EO.s_ t,hsl t (names_use ht)])
    ·exact frame_liteS (N:=n2) T R (liteS_agree y2 (hheap j9 (by rw[y3];exact List.mem_singleton.2 rfl))) y5 y3 y6 (y7.trans EO.n_.symm) (by rw[y4,upd_eq]) (fun t ht=>by rw[EO.s_ t,hsl t (names_use ht)])
   refine .inl (Oper.wp_mono2 (fun a' w' hp=>?_) (fun _ _ _ h=>h) fr)
   ·obtain ⟨κ',m',u,rfl,hv,R',ST',hM⟩:=hp
    have hh:hAt D' 0 es h0=fun j=>bif (e.w&&mem j e.F)||(Nat.ble e.n j&&Nat.blt j e.n') then e.h' j else hAt D 0 es h0 j:=by
     funext j
     have hwr:wr e j=((e.w&&mem j e.F)||(Nat.ble e.n j&&Nat.blt j e.n')):=by simp[wr,hex]
     rw[←hwr]
     cases hw:wr e j with
     | true=>
      rw[cond_true]
      have h1:hAt D' 0 es h0 j=hAt (ltB (0+i+1)) 0 es h0 j:=hAt_agree rfl fun k e' hk hwk=>by
       rw[Nat.zero_add,hD']
       by_cases h2:k=i
       ·rw[if_pos h2,h2];exact (ltB_iff.2 (by omega)).symm
       ·rw[if_neg h2,hDk hk h2 hwk (.inl hw)]
        by_cases h1:k < i
        ·rw[ltB_iff.2 h1];exact (ltB_iff.2 (by omega)).symm
        ·rw[ltB_false h1];exact (ltB_false (by omega)).symm
      rw[h1,hAt_succ he]
      simp[hStep,hw]
     | false=>
      rw[cond_false]
      exact hAt_agree rfl fun k e' hk hwk=>by
       rw[Nat.zero_add,hD']
       by_cases h2:k=i
       ·subst h2;rw[he] at hk;injection hk with hk;subst hk;rw[hw] at hwk;cases hwk
       ·rw[if_neg h2]
    refine ihf _ κ' m' _ w' (by simp[hsize]) hcnt' hcl' ?_ (hfr.put hd) (ST.trans ST') (fun v u hl=>by
     have:=hM v u (hG v u hl)
     show liveV w' κ' m' n2 (hAt D' 0 es h0) v u∧nameOk (AD n0 es D') v
     rw[hh]
     refine ⟨this.1,nameOk_mono (fun id hid=>?_) this.2⟩
     rcases hid with (hid | ⟨k,e',h1,h2,h3⟩) | hid
     ·exact .inl hid
     ·refine .inr ⟨k,e',h1,?_,h3⟩
      rw[hD']
      split
      ·rfl
      ·exact h2
     ·exact .inr ⟨i,e,he,by rw[hD',if_pos rfl],hid⟩)
    show RelN (AD n0 es D') w' κ' m' n2 (sAt D' 0 es s0) (hAt D' 0 es h0) _
    rw[show sAt D' 0 es s0=put (sAt D 0 es s0) e.o.dst e.v from funext hsl',hh]
    refine (RelN.put R' (fun t ht=>by rw[hfr.size];exact (hd t ht).1) hv).mono (fun id hid=>?_) (fun id hid=>?_)
    ·rcases hid with (hid | ⟨k,e',h1,h2,h3⟩) | hid
     ·exact .inl hid
     ·refine .inr ⟨k,e',h1,?_,h3⟩
      rw[hD']
      split
      ·rfl
      ·exact h2
     ·exact .inr ⟨i,e,he,by rw[hD',if_pos rfl],hid⟩
    ·rcases hid with hid | ⟨k,e',h1,h2,h3⟩
     ·omega
     ·have:=(tat k e' h1).2.2.2.1
      omega
theorem draw_regionK (T:TOk P tt) (HC:∀ f args res outs,C f args res outs→Contract P f args res outs) (hm:P.follows .mixedOrders=true) {opsA:Array Oper} {id:Nat} {M:Fm} {K:Nat→Slots→Heap→List Log→Prop}
  (hk:aopsD C tt opsA.toList n 0 opsA.toList s h [] K) (hK:∀ n s h log,K n s h log→regOk opsA log=true) (S:St M w κ m n s h a) (ST:Stp κ0 w0 κ w) (hdst:∀ o∈opsA.toList,∀ d,o.dst=some d→M.ok d) {Q:Exit→Act→World→Prop}
  (hL:∀ v u,L0 v u→liveV w κ m n h v u) (hQ:∀ a w,UpK (fun n s h=>∃ log,K n s h log) M κ0 w0 L0 a w→Q .normal a w):(Code.region id opsA true).wp P Q a w:=by
 obtain ⟨es,n2,s2,log2,a1,a2,a3⟩:=aopsD_trace (s:=s) (fun _=>rfl) hk
 refine wp_region_any hm ?_
 have R0:Rel {w with drawn:=w.drawn+1} κ m n s h a:=S.rel.drew rfl
 have hno:∀ k,listD (Array.replicate opsA.size false) k=false:=fun k=>by
  unfold listD
  by_cases hk:k < opsA.size<;>simp[Array.getD,hk]
 have e1:sAt (listD (Array.replicate opsA.size false)) 0 es s=s:=sAt_none fun k _=>hno _
 have e2:hAt (listD (Array.replicate opsA.size false)) 0 es h=h:=hAt_none fun k _=>hno _
 have hcnt:∀ k,cnt (List.replicate k false)=k:=fun k=>by
  induction k with
  | zero=>rfl
  | succ k ih=>simp[List.replicate_succ,cnt,ih]
 have hle:=(Trace_at a3).2.1
 refine drawn_anyK (κ0:=κ0) (w0:=w0) (L0:=L0) T HC a3 (hK _ _ _ _ a1) hdst (fun a' w' κ' m' S' ST' hL'=>hQ a' w' ⟨n2,s2,_,κ',m',⟨log2,a1⟩,⟨S'.rel.retell a2,S'.fr⟩,ST',hL'⟩) opsA.size _ κ m a _ (by simp) (by simp[hcnt]) (fun i hi=>by rw[hno] at hi;cases hi) ?_ S.fr ?_ ?_
 ·rw[e1,e2]
  exact (R0.names hle).mono (fun i hi=> .inl hi) (fun i hi=>by
   rcases hi with hi | ⟨k,e,_,hd,_⟩
   ·omega
   ·rw[hno] at hd;cases hd)
 ·exact ST.trans ⟨rfl,rfl,rfl,Nat.le_refl _,fun _ _ _=>rfl,fun _ h=>h,fun _ _ h=>h,fun _ C _ _ h=>⟨C,h,rfl⟩⟩
 ·intro v u hl
  rw[e2]
  have h1:=hL v u hl
  have h2:liveV {w with drawn:=w.drawn+1} κ m n h v u:=by cases v<;>exact h1
  refine ⟨liveV_move hle (fun i hi=> .inr ⟨rfl,rfl,fun x hx=>⟨hx,rfl⟩⟩) v u h2,nameOk_mono (fun i hi=> .inl hi) (liveV_name h1)⟩
def flat:Code→Bool
 | .skip=>true
 | .region _ ops _=>(coinP ops.toList).isNone
 | .seq a b=>flat a&&flat b
 | .cond _ a b=>flat a&&flat b
 | .block _ c=>flat c
 | .exit _=>true
 | .ret=>true
 | _=>false
theorem flat_sound (T:TOk P tt) (HC:∀ f args res outs,C f args res outs→Contract P f args res outs) (hm:P.follows .mixedOrders=true) {Mn:Nat} {J:List Nat} (hM:Mn≤M.size) (hJ:∀ j,M.J j→j∈J):∀ (c:Code) {n:Nat} {s:Slots} {h:Heap} {κ:Gh} {m:Nat→Addr} {a:Act} {w:World} {Q:Nat→Ex→Slots→Heap→Prop},
  flat c=true→codeOk Mn J c=true→ewpR C tt (fun _=>false) c n s h Q→St M w κ m n s h a→Stp κ0 w0 κ w→(∀ v u,L0 v u→liveV w κ m n h v u)→c.wp P (UpXK Q M κ0 w0 L0) a w
 | .skip,n,s,h,κ,m,a,w,Q,hf,hc,hk,S,ST,hL=>wp_skip ⟨n,s,h,κ,m,hk,S,ST,hL⟩
 | .region id ops draw,n,s,h,κ,m,a,w,Q,hf,hc,hk,S,ST,hL=>by
  cases draw with
  | true=>
   replace hk:(match coinP ops.toList with | some x=>coinK tt x n s h (fun n s h=>Q n .normal s h) | none=>aopsDR C tt ops.toList ops.toList n 0 s h [] (fun n s h log=>regOk ops log=true∧Q n .normal s h)):=hk
   have hf:(coinP ops.toList).isNone=true:=hf
   rw[Option.isNone_iff_eq_none.1 hf] at hk
   dsimp only at hk
   rw[aopsDR_eq] at hk
   exact draw_regionK (L0:=L0) T HC hm (K:=fun n s h log=>regOk ops log=true∧Q n .normal s h) hk (fun _ _ _ _ hk=>hk.1) S ST (dstOk_at hM hJ hc) hL (fun a w hu=>by
    obtain ⟨n,s,h,κ,m,⟨log,hk⟩,S,ST,hL⟩:=hu
    exact ⟨n,s,h,κ,m,hk.2,S,ST,hL⟩)
  | false=>
   replace hk:aopsR C tt ops.toList ops.toList n s h (fun n s h=>Q n .normal s h):=hk
   rw[aopsR_eq] at hk
   exact wp_region_list (aopsK_sound (K:=fun n s h=>Q n .normal s h) T HC (fun a w hu=>hu) hk S ST hL (dstOk_at hM hJ hc))
 | .seq x y,n,s,h,κ,m,a,w,Q,hf,hc,hk,S,ST,hL=>by
  simp only[codeOk,Bool.and_eq_true] at hc
  simp only[flat,Bool.and_eq_true] at hf
  replace hk:ewpR C tt (fun _=>false) x n s h (fun n e s h=>match e with | .normal=>ewpR C tt (fun _=>false) y n s h Q | .exit i=>Q n (.exit i) s h | .ret=>Q n .ret s h):=hk
  refine wp_seq (wp_mono (flat_sound T HC hm hM hJ x hf.1 hc.1 hk S ST hL) fun e a w hq=>?_)
  cases e with
  | normal=>
   obtain ⟨n,s,h,κ,m,hk,S,ST,hL⟩:=hq
   exact flat_sound T HC hm hM hJ y hf.2 hc.2 hk S ST hL
  | exit i=>exact hq
  | ret=>exact hq
  | _=>exact (show False from hq).elim
 | .cond c x y,n,s,h,κ,m,a,w,Q,hf,hc,hk,S,ST,hL=>by
  simp only[codeOk,Bool.and_eq_true] at hc
  simp only[flat,Bool.and_eq_true] at hf
  replace hk:ewpCond c x y (ewpR C tt (fun _=>false) x) (ewpR C tt (fun _=>false) y) n s h Q:=hk
  unfold ewpCond at hk
  split at hk
  ·rename_i t
   split at hk
   ·rename_i v hv
    obtain ⟨h1,h2⟩:=S.rel.slot t v hv
    have he:∀ b,a.tmps.getD t undef= .bool b→a.eval (.tmp t)= .bool b:=fun b hb=>hb
    have St':∀ v',norm v'=norm v→St M w κ m n (put s (some t) v') h a:=fun v' hv'=>⟨S.rel.retell (put_norm hv hv'),S.fr⟩
    split at hk
    ·exact wp_cond (t:=true) (he _ h2) (flat_sound T HC hm hM hJ x hf.1 hc.1 hk S ST hL)
    ·exact wp_cond (t:=false) (he _ h2) (flat_sound T HC hm hM hJ y hf.2 hc.2 hk S ST hL)
    ·rename_i b
     cases b with
     | true=>exact wp_cond (t:=true) (he _ h2) (flat_sound T HC hm hM hJ x hf.1 hc.1 (hk.1 rfl) (St' .tt rfl) ST hL)
     | false=>exact wp_cond (t:=false) (he _ h2) (flat_sound T HC hm hM hJ y hf.2 hc.2 (hk.2 rfl) (St' .ff rfl) ST hL)
    ·exact hk.elim
   ·exact hk.elim
  ·exact hk.elim
 | .block id c,n,s,h,κ,m,a,w,Q,hf,hc,hk,S,ST,hL=>by
  replace hk:ewpR C tt (fun _=>false) c n s h (fun n e s h=>match e with | .normal=>Q n .normal s h | .exit j=>bif Nat.beq j id then Q n .normal s h else Q n (.exit j) s h | .ret=>Q n .ret s h):=hk
  refine wp_block (wp_mono (flat_sound T HC hm hM hJ c hf hc hk S ST hL) fun e a w hq=>?_)
  cases e with
  | normal=>exact hq
  | exit i=>
   obtain ⟨n,s,h,κ,m,hk,S,ST,hL⟩:=hq
   simp only[Exit.inBlock]
   cases hb:Nat.beq i id with
   | true=>
    simp only[hb,cond_true] at hk
    rw[if_pos (Nat.eq_of_beq_eq_true hb)]
    exact ⟨n,s,h,κ,m,hk,S,ST,hL⟩
   | false=>
    simp only[hb,cond_false] at hk
    rw[if_neg (fun e=>by rw[e,beqT] at hb;cases hb)]
    exact ⟨n,s,h,κ,m,hk,S,ST,hL⟩
  | ret=>exact hq
  | _=>exact (show False from hq).elim
 | .loop c,n,s,h,κ,m,a,w,Q,hf,hc,hk,S,ST,hL=>by cases hf
 | .exit id,n,s,h,κ,m,a,w,Q,hf,hc,hk,S,ST,hL=>wp_exit ⟨n,s,h,κ,m,hk,S,ST,hL⟩
 | .ret,n,s,h,κ,m,a,w,Q,hf,hc,hk,S,ST,hL=>wp_ret ⟨n,s,h,κ,m,hk,S,ST,hL⟩
 | .rangeFunc ..,n,s,h,κ,m,a,w,Q,hf,hc,hk,S,ST,hL=>by cases hf
 | .scope ..,n,s,h,κ,m,a,w,Q,hf,hc,hk,S,ST,hL=>by cases hf
 | .label ..,n,s,h,κ,m,a,w,Q,hf,hc,hk,S,ST,hL=>by cases hf
 | .goto ..,n,s,h,κ,m,a,w,Q,hf,hc,hk,S,ST,hL=>by cases hf
 | .refuse ..,n,s,h,κ,m,a,w,Q,hf,hc,hk,S,ST,hL=>by cases hf
def resT (s:Slots) (l:List ResultVar) (K:List AV→Prop):Prop:=match l with
 | []=>K []
 | .tmp t::r=>opv s (.tmp t) fun v=>resT s r fun vs=>K (v::vs)
 | .cell _ _::_=>False
theorem resT_sound:∀ {l:List ResultVar} {K:List AV→Prop},Rel w κ m n s h a→resT s l K→∃ vs us,K vs∧(∀ c,relL w κ (liveV w κ m n h) none c vs us)∧vs.length=l.length∧
  (List.mapM (m:=Sem) (fun (x:ResultVar)=>match x with
   | .tmp t=>pure (a.tmps.getD t undef)
   | .cell b t=>do loadVar t (←asAddr (a.tmps.getD b undef))) l).run P w=Result.ok us w
 | [],K,R,hk=>⟨[],[],hk,fun c=>rfl,rfl,by simp⟩
 | .tmp t::l,K,R,hk=>by
  obtain ⟨v,hk,hv⟩:=opv_sound R (show opv s (.tmp t) _ from hk)
  obtain ⟨vs,us,hk,hr,hl,hrun⟩:=resT_sound R hk
  refine ⟨v::vs,a.tmps.getD t undef::us,hk,fun c=>⟨_,_,rfl,relV_move (fun b hb=>⟨hb,rfl⟩) (fun _ _ h=>h) v _ _ _ (by simp[kid,KeyMap]) hv,hr _⟩,by simp[hl],?_⟩
  rw[List.mapM_cons]
  simp only[Sem.run_bind,Sem.run_pure,Result.andThen_ok,hrun]
 | .cell b t::l,K,R,hk=>hk.elim
def inlK (C:FuncId→List AV→AV→List (Option AV)→Prop) (tt:TypeId→Option TI) (c:Call) (fn:Func) (n:Nat) (s:Slots) (h:Heap) (K:Nat→AV→Heap→Prop):Prop:=
 match fn.body with
 | none=>False
 | some code=>opvs s c.args.toList fun vs=>ewpR C tt (fun _=>false) code n (slots (number 0 vs)) h fun n e s h=>match e with
  | .exit _=>False
  | _=>resT s fn.results.toList fun rs=>K n (tuple rs) h
def inlOk (P:Program) (f:FuncId) (fn:Func):Prop:=P.funcs[f]?=some fn∧(fn.name == "runtime.NumGoroutine")=false∧(match fn.body with | some c=>flat c&&codeOk fn.ntmps [] c | none=>false)=true
theorem inl_sound (T:TOk P tt) (HC:∀ f args res outs,C f args res outs→Contract P f args res outs) (hm:P.follows .mixedOrders=true) {f:FuncId} {fn:Func} (hfn:inlOk P f fn) (S:St M w κ m n s h a) (ST:Stp κ0 w0 κ w) {o:Oper} {c:Call} (ho:o.op= .call c) (hc:c.callee= .value (.func f)) {K:Nat→AV→Heap→Prop} (hk:inlK C tt c fn n s h K):
  o.wp P a w (fun a' w'=>∃ n' v h' κ' m' u,K n' v h'∧a'=a.put o.dst u∧relV w' κ' (liveV w' κ' m' n' h') none v u∧Rel w' κ' m' n' s h' a∧Stp κ0 w0 κ' w') (fun _ _ _=>False):=by
 obtain ⟨hf,hname,hcode⟩:=hfn
 unfold inlK at hk
 split at hk
 ·exact hk.elim
 ·rename_i code hb
  rw[hb] at hcode
  simp only[Bool.and_eq_true] at hcode
  obtain ⟨vs,hk,hvs⟩:=opvs_sound (K:=fun _=>True) S.rel hk
  generalize hvals:c.args.toList.map a.eval=vals at hvs
  have hlen2:vs.length=vals.length:=(relL_get (hvs 0)).1.symm
  let a0:Act:={tmps:=vals.toArray++Array.replicate (fn.ntmps - vals.toArray.size) undef,defers:=[]}
  have R0:Rel w κ m n (slots (number 0 vs)) h a0:=by
   refine ⟨fun t v ht=>?_,S.rel.blk,S.rel.low,S.rel.fresh⟩
   obtain ⟨_,ht⟩:=number_get ht
   have ht:vs[t]?=some v:=by simpa using ht
   have hlt:t < vals.length:=by have:=(List.getElem?_eq_some_iff.1 ht).1;omega
   refine ⟨by simp[a0];omega,?_⟩
   have:=(relL_get (hvs 0)).2 t v vals[t] ht (List.getElem?_eq_getElem hlt)
   have e:a0.tmps.getD t undef=vals[t]:=by
    simp[a0,Array.getD_eq_getD_getElem?,Array.getElem?_append,hlt]
   rw[e]
   exact relV_move (fun b hb=>⟨hb,rfl⟩) (fun _ _ h=>h) v _ _ _ (by simp[kid,KeyMap]) this
  have hrun:(execOp a.eval o).run P w= .ok (.enter f vals.toArray) w:=by
   have hname':fn.name≠ "runtime.NumGoroutine" :=by simpa using hname
   have:=call_run (P:=P) (a:=a) (w:=w) (cap:=[]) (f:=f) ho hc rfl
   rw[List.append_nil,hvals] at this
   rw[this]
   simp[callFunc,hf,hname',hb,go_sem]
  unfold Oper.wp
  rw[hrun,Oper.upon_enter]
  refine Calls.mono (calls_of_wp (R:=fun e w'=>∃ v,e= .returned v∧∃ n' x h' κ' m',K n' x h'∧relV w' κ' (liveV w' κ' m' n' h') none x v∧Rel w' κ' m' n' s h' a∧Stp κ0 w0 κ' w') hf hb ?_) fun e w' he=>?_
  ·let FM:Fm:=⟨a0.tmps.size,(· ∈([]:List Nat)),fun j=>a0.tmps.getD j undef⟩
   refine wp_mono (flat_sound (M:=FM) (κ0:=κ) (w0:=w) (L0:=liveV w κ m n h) T HC hm (by simp[FM,a0];omega) (fun j hj=>hj) code hcode.1 hcode.2 hk ⟨R0,rfl,rfl,fun _ _=>rfl⟩ (Stp.refl _ _) (fun _ _ h=>h)) fun e a' w' hq=>?_
   have fin:∀ {n':Nat} {s':Slots} {h':Heap} {κ':Gh} {m':Nat→Addr},St FM w' κ' m' n' s' h' a'→Stp κ w κ' w'→(∀ v u,liveV w κ m n h v u→liveV w' κ' m' n' h' v u)→(resT s' fn.results.toList fun rs=>K n' (tuple rs) h')→
     a'.defers=[]∧∃ v,(results fn a'.tmps).run P w'= .ok v w'∧∃ v',Ending.returned v= .returned v'∧∃ n' x h' κ' m',K n' x h'∧relV w' κ' (liveV w' κ' m' n' h') none x v'∧Rel w' κ' m' n' s h' a∧Stp κ0 w0 κ' w':=by
    intro n' s' h' κ' m' S' ST' hL hk
    obtain ⟨rs,us,hk,hr,hl,hrun⟩:=resT_sound (P:=P) S'.rel hk
    have hsz:us.toArray.size=rs.length:=by
     have:=(relL_get (hr 0)).1
     simpa using this
    refine ⟨S'.fr.defers,_,?_,_,rfl,n',_,h',κ',m',hk,resVal hr hsz,⟨fun t v ht=>?_,S'.rel.blk,S'.rel.low,S'.rel.fresh⟩,ST.trans ST'⟩
    ·unfold results
     rw[Array.mapM_eq_mapM_toList]
     have e2:∀ X:Sem (List Value),(List.toArray <$>X).run P w'=(X.run P w').andThen fun l w=> .ok l.toArray w:=fun X=>by
      show Sem.run P (X>>=fun l=>pure l.toArray) w'=_
      simp only[Sem.run_bind,Sem.run_pure]
     rw[Sem.run_bind,e2]
     refine (congrArg (fun r=>Result.andThen (Result.andThen r fun l w=> .ok l.toArray w) _) hrun).trans ?_
     simp only[Result.andThen_ok,Sem.run_pure]
    ·obtain ⟨h1,h2⟩:=S.rel.slot t v ht
     exact ⟨h1,relV_move (ST'.immMap S.rel.low) hL v none none _ .none_ h2⟩
   cases e with
   | normal=>
    obtain ⟨n,s,h,κ',m,hk,S,ST,hL⟩:=hq
    exact fin S ST hL hk
   | ret=>
    obtain ⟨n,s,h,κ',m,hk,S,ST,hL⟩:=hq
    exact fin S ST hL hk
   | exit i=>
    obtain ⟨n,s,h,κ',m,hk,S,ST,hL⟩:=hq
    exact hk.elim
   | _=>exact (show False from hq).elim
  ·obtain ⟨v,rfl,n',x,h',κ',m',h1,h2,h3,h4⟩:=he
   exact ⟨n',x,h',κ',m',v,h1,rfl,h2,h3,h4⟩
end
section
variable (C:FuncId→List AV→AV→List (Option AV)→Prop) (tt:TypeId→Option TI) (inl:FuncId→Option Func)
def inlOf (o:Oper):Option (Call×FuncId×Func):=match o.op with
 | .call c=>(match c.callee with | .value (.func f)=>(match inl f with | some fn=>some (c,f,fn) | none=>none) | _=>none)
 | _=>none
def aopsICons (all:List Oper) (o:Oper) (rest:List Oper) (ih:WpA):WpA:=fun n s h K=>match inlOf inl o with
 | some x=>(match o.guard with | none=>inlK C tt x.1 x.2.2 n s h fun n v h=>ih n (put s o.dst v) h K | some _=>False)
 | none=>aopsCons C tt all o rest ih n s h K
def aopsIR (all ops:List Oper):WpA:=List.rec (motive:=fun _=>WpA) aopsNil (aopsICons C tt inl all) ops
def ewpRegI0 (ops:Array Oper) (draw:Bool):WpC:=fun n s h Q=>match draw with
 | false=>aopsIR C tt inl ops.toList ops.toList n s h fun n s h=>Q n .normal s h
 | true=>match coinP ops.toList with
  | some x=>coinK tt x n s h fun n s h=>Q n .normal s h
  | none=>aopsDR C tt ops.toList ops.toList n 0 s h [] fun n s h log=>regOk ops log=true∧Q n .normal s h
def ewpRegI1 (cut:Nat→Bool) (id:Nat) (ops:Array Oper) (draw:Bool):WpC:=fun n s h Q=>match cut id with
 | false=>ewpRegI0 C tt inl ops draw n s h Q
 | true=>∃ (α:Type) (S:α→Loose) (a:α),Weak s h (S a)∧∀ (a:α),forceNat (nextId (S a)) fun n=>ewpRegI0 C tt inl ops draw n (slots (S a).s) (heap (S a).h) Q
def openX (n:Nat) (h:Heap) (K:Nat→Heap→Prop):Prop:=∃ (id r c k:Nat) (rs:List (List AV)) (B:Blk),h id=some B∧cellAt B r c=some (.ow k rs)∧findHole (holesIn B) r c=none∧K (n+1) (upd (upd h n (some (.rows k rs []))) id (some (withHoles B (⟨r,c,n⟩::holesIn B))))
def ewpRegI (pre:Nat→Option (Nat×TypeId)) (cut:Nat→Bool) (id:Nat) (ops:Array Oper) (draw:Bool):WpC:=fun n s h Q=>match pre id with
 | none=>ewpRegI1 C tt inl cut id ops draw n s h Q
 | some x=>bif Nat.blt x.1 500 then ty tt x.2 fun i=>opv s (.tmp x.1) fun a=>load n i a h fun _ n _ h=>ewpRegI1 C tt inl cut id ops draw n s h Q
  else ty tt x.2 fun i=>opv s (.tmp (x.1 - 500)) fun a=>load n i a h fun _ n _ h=>openX n h fun n h=>ewpRegI1 C tt inl cut id ops draw n s h Q
def ewpI (pre:Nat→Option (Nat×TypeId)) (cut:Nat→Bool) (c:Code):WpC:=Code.rec (motive:=fun _=>WpC) ewpSkip (ewpRegI C tt inl pre cut) ewpSeq ewpCond ewpBlock ewpLoop (fun _ _ _ _ _ _=>ewpBad) ewpExit (fun _ _=>ewpBad) (fun _=>ewpBad) (fun _=>ewpBad) ewpRet (fun _=>ewpBad) c
def ewpGI (pre:Nat→Option (Nat×TypeId)) (cut:Nat→Bool) (fn:Func) (args:List AV) (res:AV) (outs:List (Option AV)):Prop:=
 match fn.body with
 | none=>False
 | some c=>openAs 0 (heap []) args fun n vs h=>ewpI C tt inl pre cut c n (slots (number 0 vs)) h fun n e s h=>
  match e with
  | .exit _=>False
  | _=>resultsV tt fn.results.toList n s h fun rs h=>closeV 40 .mv h [] (tuple rs) fun r h vis=>(match vis with | []=>Sim r res∧outsK h s 0 outs | _=>False)
end
section
variable {P:Program} {w w' w0:World} {κ κ' κ0 κ3 κc:Gh} {m m':Nat→Addr} {n n' N:Nat} {M:Fm} {s s':Slots} {h h':Heap} {a:Act} {L L' L0:AV→Value→Prop} {tt:TypeId→Option TI} {C:FuncId→List AV→AV→List (Option AV)→Prop} {cut:Nat→Bool} {pre:Nat→Option (Nat×TypeId)} {inl:FuncId→Option Func}
theorem aopsIR_sound (T:TOk P tt) (HC:∀ f args res outs,C f args res outs→Contract P f args res outs) (hm:P.follows .mixedOrders=true) (hinl:∀ f fn,inl f=some fn→inlOk P f fn) {opsA:Array Oper} {Q:Exit→Act→World→Prop} {K:Nat→Slots→Heap→Prop} (hQ:∀ a w,Up K M κ0 w0 a w→Q .normal a w):
  ∀ {ops:List Oper} {n:Nat} {s:Slots} {h:Heap} {κ:Gh} {m:Nat→Addr} {a:Act} {w:World},aopsIR C tt inl opsA.toList ops n s h K→St M w κ m n s h a→Stp κ0 w0 κ w→(∀ o∈ops,∀ d,o.dst=some d→M.ok d)→wpList P opsA Q ops a w
 | [],n,s,h,κ,m,a,w,hk,S,ST,hb=>hQ a w ⟨n,s,h,κ,m,hk,S,ST⟩
 | o::rest,n,s,h,κ,m,a,w,hk,S,ST,hb=>by
  have hb':∀ o∈rest,∀ d,o.dst=some d→M.ok d:=fun o ho=>hb o (List.mem_cons_of_mem _ ho)
  have hd:=hb o (List.mem_cons_self ..)
  replace hk:aopsICons C tt inl opsA.toList o rest (aopsIR C tt inl opsA.toList rest) n s h K:=hk
  unfold aopsICons at hk
  split at hk
  ·rename_i x hx
   obtain ⟨c,f,fn⟩:=x
   split at hk
   ·rename_i hg
    unfold inlOf at hx
    split at hx
    ·rename_i c' ho
     split at hx
     ·rename_i f' hc
      split at hx
      ·rename_i fn' hfn
       injection hx with hx
       injection hx with h1 h2
       injection h2 with h2 h3
       subst h1 h2 h3
       unfold wpList
       rw[if_pos (by simp[Region.wanted,hg])]
       refine .inl (Oper.wp_mono2 (fun a' w' hp=>?_) (fun _ _ _ h=>h) (inl_sound T HC hm (hinl _ _ hfn) S ST ho hc hk))
       obtain ⟨n',v,h',κ',m',u,hk,rfl,hv,R,S'⟩:=hp
       exact aopsIR_sound T HC hm hinl hQ hk (St.put ⟨R,S.fr⟩ hd hv) S' hb'
      ·cases hx
     ·cases hx
    ·cases hx
   ·exact hk.elim
  ·have yes:∀ {s:Slots},St M w κ m n s h a→Region.wanted o (yielded opsA a.tmps)=true→aop C tt n o s h (fun _ n v h=>aopsIR C tt inl opsA.toList rest n (put s o.dst v) h K)→wpList P opsA Q (o::rest) a w:=fun {s} S hw hk=>by
    unfold wpList
    rw[if_pos hw]
    refine .inl (Oper.wp_mono2 (fun a' w' hp=>?_) (fun _ _ _ h=>h) (aop_sound T HC S.rel hk))
    obtain ⟨f,n',v,h',κ',m',u,hk,hn,rfl,hv,R,S',_⟩:=hp
    exact aopsIR_sound T HC hm hinl hQ hk (St.put ⟨R,S.fr⟩ hd hv) (ST.trans S') hb'
   have no:∀ {s:Slots},St M w κ m n s h a→Region.wanted o (yielded opsA a.tmps)=false→aopsIR C tt inl opsA.toList rest n (put s o.dst (.tup [])) h K→wpList P opsA Q (o::rest) a w:=fun {s} S hw hk=>by
    unfold wpList
    rw[if_neg (by rw[hw];simp)]
    exact aopsIR_sound T HC hm hinl hQ hk (St.put S hd tup_rel) ST hb'
   unfold aopsCons at hk
   split at hk
   ·rename_i hg
    exact yes S (by simp[Region.wanted,hg]) hk
   ·rename_i j want hg
    split at hk
    ·rename_i oj hj
     split at hk
     ·rename_i d hdj
      split at hk
      ·rename_i b hsd
       obtain ⟨hlt,hrel⟩:=S.rel.slot d b hsd
       split at hk
       ·have hrel:a.tmps.getD d undef= .bool true:=hrel
        cases want with
        | true=>exact yes S (wanted_yes hg hj hdj hlt hrel) hk
        | false=>exact no S (wanted_no hg hj hdj hlt (by rw[hrel];simp)) hk
       ·have hrel:a.tmps.getD d undef= .bool false:=hrel
        cases want with
        | false=>exact yes S (wanted_yes hg hj hdj hlt hrel) hk
        | true=>exact no S (wanted_no hg hj hdj hlt (by rw[hrel];simp)) hk
       ·rename_i b
        have hrel:a.tmps.getD d undef= .bool b:=hrel
        have St':∀ v',norm v'= .bool b→St M w κ m n (put s (some d) v') h a:=fun v' hv'=>⟨S.rel.retell (put_norm hsd hv'),S.fr⟩
        cases want with
        | true=>
         cases b with
         | true=>exact yes (St' .tt rfl) (wanted_yes hg hj hdj hlt hrel) (hk.1 rfl)
         | false=>exact no (St' .ff rfl) (wanted_no hg hj hdj hlt (by rw[hrel];simp)) (hk.2 rfl)
        | false=>
         cases b with
         | false=>exact yes (St' .ff rfl) (wanted_yes hg hj hdj hlt hrel) (hk.1 rfl)
         | true=>exact no (St' .tt rfl) (wanted_no hg hj hdj hlt (by rw[hrel];simp)) (hk.2 rfl)
       ·obtain ⟨vs,hu,hvs⟩:=hrel
        exact no S (wanted_no hg hj hdj hlt (by rw[hu];simp)) hk
       ·exact hk.elim
      ·exact hk.elim
     ·exact hk.elim
    ·exact hk.elim
theorem ewpI_sound (T:TOk P tt) (HC:∀ f args res outs,C f args res outs→Contract P f args res outs) (hinl:∀ f fn,inl f=some fn→inlOk P f fn) (hm:P.follows .mixedOrders=true) {Mn:Nat} {J:List Nat} (hM:Mn≤M.size) (hJ:∀ j,M.J j→j∈J):∀ (c:Code) {n:Nat} {s:Slots} {h:Heap} {κ:Gh} {m:Nat→Addr} {a:Act} {w:World} {Q:Nat→Ex→Slots→Heap→Prop},
  codeOk Mn J c=true→ewpI C tt inl pre cut c n s h Q→St M w κ m n s h a→Stp κ0 w0 κ w→c.wp P (UpX Q M κ0 w0) a w
 | .skip,n,s,h,κ,m,a,w,Q,hc,hk,S,ST=>wp_skip ⟨n,s,h,κ,m,hk,S,ST⟩
 | .region id ops draw,n,s,h,κ,m,a,w,Q,hc,hk,S,ST=>by
  have base:∀ {n:Nat} {s:Slots} {h:Heap} {κ:Gh} {m:Nat→Addr},ewpRegI0 C tt inl ops draw n s h Q→St M w κ m n s h a→Stp κ0 w0 κ w→(Code.region id ops draw).wp P (UpX Q M κ0 w0) a w:=fun {n s h κ m} hk S ST=>by
   cases draw with
   | false=>
    replace hk:aopsIR C tt inl ops.toList ops.toList n s h (fun n s h=>Q n .normal s h):=hk
    exact wp_region_list (aopsIR_sound (K:=fun n s h=>Q n .normal s h) T HC hm hinl (fun a w hu=>hu) hk S ST (dstOk_at hM hJ hc))
   | true=>
    replace hk:(match coinP ops.toList with | some x=>coinK tt x n s h (fun n s h=>Q n .normal s h) | none=>aopsDR C tt ops.toList ops.toList n 0 s h [] (fun n s h log=>regOk ops log=true∧Q n .normal s h)):=hk
    split at hk
    ·rename_i x hx
     exact coin_sound T HC hm hx hk S ST (dstOk_at hM hJ hc) (fun a w hu=>hu)
    rw[aopsDR_eq] at hk
    exact draw_region T HC hm (K:=fun n s h log=>regOk ops log=true∧Q n .normal s h) hk (fun _ _ _ _ hk=>hk.1) S ST (dstOk_at hM hJ hc) (fun a w hu=>by
     obtain ⟨n,s,h,κ,m,⟨log,hk⟩,S,ST⟩:=hu
     exact ⟨n,s,h,κ,m,hk.2,S,ST⟩)
  have mid:∀ {n:Nat} {s:Slots} {h:Heap} {κ:Gh} {m:Nat→Addr},ewpRegI1 C tt inl cut id ops draw n s h Q→St M w κ m n s h a→Stp κ0 w0 κ w→(Code.region id ops draw).wp P (UpX Q M κ0 w0) a w:=fun {n s h κ m} hk S ST=>by
   unfold ewpRegI1 at hk
   split at hk
   ·exact base hk S ST
   ·obtain ⟨α,F,x0,hw0,hall⟩:=hk
    obtain ⟨κ',m',R,ST'⟩:=Weak_sound S.rel hw0
    exact base (forceNat_eq (hall x0)) ⟨R,S.fr⟩ (ST.trans ST')
  replace hk:ewpRegI C tt inl pre cut id ops draw n s h Q:=hk
  unfold ewpRegI at hk
  split at hk
  ·exact mid hk S ST
  ·rename_i x hx
   obtain ⟨b,t⟩:=x
   cases hb5:Nat.blt b 500 with
   | true=>
    rw[hb5] at hk
    replace hk:ty tt t fun i=>opv s (.tmp b) fun a=>load n i a h fun _ n _ h=>ewpRegI1 C tt inl cut id ops draw n s h Q:=hk
    obtain ⟨i,ht,hk⟩:=ty_sound hk
    cases hsb:s b with
    | none=>simp only[opv,hsb] at hk
    | some vb=>
     obtain ⟨hlt,hrb⟩:=S.rel.slot b vb hsb
     simp only[opv,hsb] at hk
     let o:Oper:={dst:=some b,op:= .load t (.tmp b),type:=t,pos:= "",after:=#[],guard:=none}
     have hok:=ok_load T S.rel (o:=o) (K:=fun _ n _ h=>ewpRegI1 C tt inl cut id ops draw n s h Q) rfl ht (v:=vb) hrb hk
     obtain ⟨u,hu⟩:=load_run T S.rel (o:=o) rfl ht (v:=vb) hrb hk
     unfold OpOk Oper.wp at hok
     rw[hu] at hok
     obtain ⟨f,n1,v1,h1,κ1,m1,u1,hk1,_,_,_,R1,ST1,_⟩:=hok
     exact mid hk1 ⟨R1,S.fr⟩ (ST.trans ST1)
   | false=>
    rw[hb5] at hk
    replace hk:ty tt t fun i=>opv s (.tmp (b - 500)) fun a=>load n i a h fun _ n _ h=>openX n h fun n h=>ewpRegI1 C tt inl cut id ops draw n s h Q:=hk
    obtain ⟨i,ht,hk⟩:=ty_sound hk
    cases hsb:s (b - 500) with
    | none=>simp only[opv,hsb] at hk
    | some vb=>
     obtain ⟨hlt,hrb⟩:=S.rel.slot (b - 500) vb hsb
     simp only[opv,hsb] at hk
     let o:Oper:={dst:=some (b - 500),op:= .load t (.tmp (b - 500)),type:=t,pos:= "",after:=#[],guard:=none}
     have hok:=ok_load T S.rel (o:=o) (K:=fun _ n _ h=>openX n h fun n h=>ewpRegI1 C tt inl cut id ops draw n s h Q) rfl ht (v:=vb) hrb hk
     obtain ⟨u,hu⟩:=load_run T S.rel (o:=o) rfl ht (v:=vb) hrb hk
     unfold OpOk Oper.wp at hok
     rw[hu] at hok
     obtain ⟨f,n1,v1,h1,κ1,m1,u1,hk1,_,_,_,R1,ST1,_⟩:=hok
     obtain ⟨id2,r2,c2,k2,rs2,B2,e1,e2,e3,hk2⟩:=hk1
     obtain ⟨κ2,m2,R2,ST2,_⟩:=open1 R1 e1 e2 e3
     exact mid hk2 ⟨R2,S.fr⟩ ((ST.trans ST1).trans ST2)
 | .seq x y,n,s,h,κ,m,a,w,Q,hc,hk,S,ST=>by
  simp only[codeOk,Bool.and_eq_true] at hc
  replace hk:ewpI C tt inl pre cut x n s h (fun n e s h=>match e with | .normal=>ewpI C tt inl pre cut y n s h Q | .exit i=>Q n (.exit i) s h | .ret=>Q n .ret s h):=hk
  refine wp_seq (wp_mono (ewpI_sound T HC hinl hm hM hJ x hc.1 hk S ST) fun e a w hq=>?_)
  cases e with
  | normal=>
   obtain ⟨n,s,h,κ,m,hk,S,ST⟩:=hq
   exact ewpI_sound T HC hinl hm hM hJ y hc.2 hk S ST
  | exit i=>exact hq
  | ret=>exact hq
  | _=>exact (show False from hq).elim
 | .cond c x y,n,s,h,κ,m,a,w,Q,hc,hk,S,ST=>by
  simp only[codeOk,Bool.and_eq_true] at hc
  replace hk:ewpCond c x y (ewpI C tt inl pre cut x) (ewpI C tt inl pre cut y) n s h Q:=hk
  unfold ewpCond at hk
  split at hk
  ·rename_i t
   split at hk
   ·rename_i v hv
    obtain ⟨h1,h2⟩:=S.rel.slot t v hv
    have he:∀ b,a.tmps.getD t undef= .bool b→a.eval (.tmp t)= .bool b:=fun b hb=>hb
    have St':∀ v',norm v'=norm v→St M w κ m n (put s (some t) v') h a:=fun v' hv'=>⟨S.rel.retell (put_norm hv hv'),S.fr⟩
    split at hk
    ·exact wp_cond (t:=true) (he _ h2) (ewpI_sound T HC hinl hm hM hJ x hc.1 hk S ST)
    ·exact wp_cond (t:=false) (he _ h2) (ewpI_sound T HC hinl hm hM hJ y hc.2 hk S ST)
    ·rename_i b
     cases b with
     | true=>exact wp_cond (t:=true) (he _ h2) (ewpI_sound T HC hinl hm hM hJ x hc.1 (hk.1 rfl) (St' .tt rfl) ST)
     | false=>exact wp_cond (t:=false) (he _ h2) (ewpI_sound T HC hinl hm hM hJ y hc.2 (hk.2 rfl) (St' .ff rfl) ST)
    ·exact hk.elim
   ·exact hk.elim
  ·exact hk.elim
 | .block id c,n,s,h,κ,m,a,w,Q,hc,hk,S,ST=>by
  replace hk:ewpI C tt inl pre cut c n s h (fun n e s h=>match e with | .normal=>Q n .normal s h | .exit j=>bif Nat.beq j id then Q n .normal s h else Q n (.exit j) s h | .ret=>Q n .ret s h):=hk
  refine wp_block (wp_mono (ewpI_sound T HC hinl hm hM hJ c hc hk S ST) fun e a w hq=>?_)
  cases e with
  | normal=>exact hq
  | exit i=>
   obtain ⟨n,s,h,κ,m,hk,S,ST⟩:=hq
   simp only[Exit.inBlock]
   cases hb:Nat.beq i id with
   | true=>
    simp only[hb,cond_true] at hk
    rw[if_pos (Nat.eq_of_beq_eq_true hb)]
    exact ⟨n,s,h,κ,m,hk,S,ST⟩
   | false=>
    simp only[hb,cond_false] at hk
    rw[if_neg (fun e=>by rw[e,beqT] at hb;cases hb)]
    exact ⟨n,s,h,κ,m,hk,S,ST⟩
  | ret=>exact hq
  | _=>exact (show False from hq).elim
 | .loop c,n,s,h,κ,m,a,w,Q,hc,hk,S,ST=>by
  replace hk:ewpLoop c (ewpI C tt inl pre cut c) n s h Q:=hk
  obtain ⟨α,F,μ,x0,hw0,hround⟩:=hk
  have key:∀ (k:Nat) (x:α) (κ:Gh) (m:Nat→Addr) (a:Act) (w:World),μ x < k→St M w κ m (nextId (F x)) (slots (F x).s) (heap (F x).h) a→Stp κ0 w0 κ w→Code.rounds P c (UpX Q M κ0 w0) k a w:=fun k=>by
   induction k with
   | zero=>intro x κ m a w hlt;omega
   | succ k ih=>
    intro x κ m a w hlt S ST
    rw[rounds_succ]
    refine wp_mono (ewpI_sound T HC hinl hm hM hJ c hc (forceNat_eq (hround x)) S ST) fun e a w hq=>?_
    cases e with
    | normal=>
     obtain ⟨n,s,h,κ,m,⟨x',hlt',hw⟩,S,ST⟩:=hq
     obtain ⟨κ',m',R,ST'⟩:=Weak_sound S.rel hw
     exact ih x' κ' m' a w (by omega) ⟨R,S.fr⟩ (ST.trans ST')
    | exit i=>exact hq
    | ret=>exact hq
    | _=>exact (show False from hq).elim
  obtain ⟨κ',m',R,ST'⟩:=Weak_sound S.rel hw0
  exact wp_loop_rounds (μ x0+1) (key _ x0 κ' m' a w (Nat.lt_succ_self _) ⟨R,S.fr⟩ (ST.trans ST'))
 | .exit id,n,s,h,κ,m,a,w,Q,hc,hk,S,ST=>wp_exit ⟨n,s,h,κ,m,hk,S,ST⟩
 | .ret,n,s,h,κ,m,a,w,Q,hc,hk,S,ST=>wp_ret ⟨n,s,h,κ,m,hk,S,ST⟩
 | .rangeFunc ..,n,s,h,κ,m,a,w,Q,hc,hk,S,ST=>(show False from hk).elim
 | .scope ..,n,s,h,κ,m,a,w,Q,hc,hk,S,ST=>(show False from hk).elim
 | .label ..,n,s,h,κ,m,a,w,Q,hc,hk,S,ST=>(show False from hk).elim
 | .goto ..,n,s,h,κ,m,a,w,Q,hc,hk,S,ST=>(show False from hk).elim
 | .refuse ..,n,s,h,κ,m,a,w,Q,hc,hk,S,ST=>(show False from hk).elim
theorem contract_of3 (T:TOk P tt) (HC:∀ f args res outs,C f args res outs→Contract P f args res outs) (hinl:∀ f fn,inl f=some fn→inlOk P f fn) (hm:P.follows .mixedOrders=true) {f:FuncId} {fn:Func} (hf:P.funcs[f]?=some fn) (hname:(fn.name == "runtime.NumGoroutine")=false) {args:List AV} {res:AV} {outs:List (Option AV)}
  (hc:(match fn.body with | some c=>codeOk fn.ntmps (outsJ 0 outs) c | none=>false)=true) (hk:ewpGI C tt inl pre cut fn args res outs):Contract P f args res outs:=by
 intro κ w vals hlow hfr hrel
 unfold ewpGI at hk
 split at hk
 ·exact hk.elim
 ·rename_i c hb
  rw[hb] at hc
  simp only at hc
  obtain ⟨n',vs,h',hk,_,g,hg,hopen⟩:=openAs_sound (c0:=0) hk
  let κ1:Gh:=fun b=>match κ b with | some (.key K)=>some (.key (0,(0,K.1)::K.2)) | x=>x
  let κ3:Gh:=fun b=>match κ b with | some (.key K)=>(match g ((0,K.1)::K.2) with | some k=>some (.key k) | none=>none) | x=>x
  have hrel1:relL w κ1 noL (some (0,[])) 0 args vals:=relA_L (fun b hb=>⟨by simp[κ1,hb],rfl⟩) (fun j p b hb=>by simp[κ1,hb]) hrel
  obtain ⟨m',NW,hvs⟩:=hopen w w κ1 κ3 (fun _=>default) (0,[]) vals hrel1 (.inl fun b hb=>⟨by
   cases e:κ b with
   | none=>simp[κ1,e] at hb
   | some x=>cases x with
    | imm=>simp[κ3,e]
    | key K=>simp[κ1,e] at hb,rfl⟩) (fun q b k hb hgq=>⟨by
   cases e:κ b with
   | none=>simp[κ1,e] at hb
   | some x=>cases x with
    | imm=>simp[κ1,e] at hb
    | key K=>
     simp only[κ1,e,List.nil_append,Option.some.injEq,G.key.injEq,Prod.mk.injEq,true_and] at hb
     simp only[κ3,e]
     rw[hb,hgq],rfl⟩)
  have hI3:∀ b,κ b=some .imm→κ3 b=some .imm:=fun b hb=>by simp[κ3,hb]
  have hlen:vals.length=args.length:=by
   obtain ⟨h1,_⟩:=relL_get hrel1
   exact h1
  have hlen2:vs.length=vals.length:=(relL_get hvs).1.symm
  let a0:Act:={tmps:=vals.toArray++Array.replicate (fn.ntmps - vals.toArray.size) undef,defers:=[]}
  have R0:Rel w κ3 m' n' (slots (number 0 vs)) h' a0:=by
   refine ⟨fun t v ht=>?_,fun id b hb=>?_,fun b x hb=>?_,fun b id p hb=>?_⟩
   ·obtain ⟨_,ht⟩:=number_get ht
    have ht:vs[t]?=some v:=by simpa using ht
    have hlt:t < vals.length:=by have:=(List.getElem?_eq_some_iff.1 ht).1;omega
    refine ⟨by simp[a0];omega,?_⟩
    have:=(relL_get hvs).2 t v vals[t] ht (List.getElem?_eq_getElem hlt)
    have e:a0.tmps.getD t undef=vals[t]:=by
     simp[a0,Array.getD_eq_getD_getElem?,Array.getElem?_append,hlt]
    rw[e]
    exact relV_move (fun b hb=>⟨hb,rfl⟩) (fun _ _ h=>h) v _ _ _ (by simp[kid,KeyMap]) this
   ·by_cases hlt:id < n'
    ·obtain ⟨B,e1,e2⟩:=NW.blk id (Nat.zero_le _) hlt
     rw[hb] at e1
     injection e1 with e1
     subst e1
     exact ⟨hlt,e2 _⟩
    ·have:=NW.old id (by omega)
     rw[hb] at this
     simp[heap] at this
   ·cases e:κ b with
    | none=>simp[κ3,e] at hb
    | some x'=>exact hlow b x' e
   ·cases e:κ b with
    | none=>simp[κ3,e] at hb
    | some x'=>cases x' with
     | imm=>simp[κ3,e] at hb
     | key K=>
      simp only[κ3,e] at hb
      split at hb
      ·rename_i k hgk
       injection hb with hb
       injection hb with hb
       subst hb
       exact (hg _ _ hgk).1.2
      ·cases hb
  have ST0:Stp κ w κ3 w:=⟨rfl,rfl,rfl,Nat.le_refl _,fun _ _ _=>rfl,hI3,fun b _ hb=>(by simp[κ3,hb]),fun _ C _ _ h=>⟨C,h,rfl⟩⟩
  have hrun:(callFunc f vals.toArray).run P w= .ok (.enter f vals.toArray) w:=by
   have hname':fn.name≠ "runtime.NumGoroutine" :=by simpa using hname
   simp[callFunc,hf,hname',hb,go_sem]
  unfold callRun
  rw[hrun]
  refine calls_of_wp hf hb ?_
  let FM:Fm:=⟨a0.tmps.size,(· ∈outsJ 0 outs),fun j=>a0.tmps.getD j undef⟩
  refine wp_mono (ewpI_sound (cut:=cut) (inl:=inl) (M:=FM) (κ0:=κ) (w0:=w) T HC hinl hm (by simp[FM,a0];omega) (fun j hj=>hj) c hc hk ⟨R0,rfl,rfl,fun _ _=>rfl⟩ ST0) fun e a' w' hq=>?_
  have fin:∀ {n:Nat} {s:Slots} {h:Heap} {κ':Gh} {m:Nat→Addr},St FM w' κ' m n s h a'→Stp κ w κ' w'→(resultsV tt fn.results.toList n s h fun rs h=>closeV 40 .mv h [] (tuple rs) fun r h vis=>(match vis with | []=>Sim r res∧outsK h s 0 outs | _=>False))→
    a'.defers=[]∧∃ v,(results fn a'.tmps).run P w'= .ok v w'∧∃ v',Ending.returned v= .returned v'∧∃ κf,relV w' κf noL (some (args.length,[])) res v'∧relOuts w' κf 0 outs vals∧Stp κ w κf w'∧(∀ b g,κf b=some g→b < w'.heap.size)∧(∀ b id p,κf b=some (.key (id,p))→id≤args.length):=by
   intro n s h κ' m S ST hk
   obtain ⟨rs,us,n1,h1,κ1',m1,hk,R1,ST1,_,hr,hl,hrun⟩:=results_sound T S.rel hk
   have S:St FM w' κ1' m1 n1 s h1 a':=⟨R1,S.fr⟩
   have ST:=ST.trans ST1
   clear ST1 R1
   have hsz:us.toArray.size=rs.length:=by
    have:=(relL_get (hr 0)).1
    simpa using this
   obtain ⟨r,h2,vis,T1,F1,V1,hk,c1,r1,_⟩:=closeV_sound S.rel (rk:=(args.length,[])) (N:=args.length+1) (Nat.lt_succ_self _) (Sub.refl h1) (resVal hr hsz) hk
   split at hk
   ·obtain ⟨hsim,hk⟩:=hk
    have:=noV c1
    subst this
    obtain ⟨T2,F2,h5,c2,ih⟩:=outsK_sound S.rel (N:=args.length) (us:=vals) (outs:=outs) (j:=0) (by omega) c1.sub (fun i o u ho hu=>by
     rw[S.fr.kept _ (outsJ_mem ho)]
     have hlt:i < vals.length:=(List.getElem?_eq_some_iff.1 hu).1
     have e:vals[i]=u:=by rw[List.getElem?_eq_getElem hlt] at hu;injection hu
     simp[FM,a0,Array.getD_eq_getD_getElem?,Array.getElem?_append,hlt,e]) hk
    have cc:=c1.trans (c2.lift (Nat.le_succ _))
    have SP:Spec κ1' (callG κ1' (T1++T2) ((F1++F2)++([]++[]))) (T1++T2) (F1++F2) ([]++[]):=spec_callG cc.nodup cc.apart (fun i hi=>by simp at hi)
    have SL:=Spec.left SP
    have SR:=Spec.right SP
    obtain ⟨κ1,x1,hro⟩:=ih _ SR
    have hrv:relV w' κ1 noL (some (args.length,[])) r _:=relV_move (x1.imm w') (fun _ _ h=>h) r _ _ _ (x1.keyMap w' fun q hS=>Nat.lt_irrefl _ hS.2) (r1 _ SL)
    obtain ⟨κ2,x2,hrv2⟩:=Sim_sound w' hsim noL κ1 (args.length,[]) _ hrv
    have hro2:relOuts w' κ2 0 outs vals:=relOuts_move (x2.imm w') (fun j' _ hj=>x2.keyMap w' fun q hS=>by
     obtain ⟨q',e⟩:=hS
     have e:=congrArg Prod.fst e
     simp at e
     omega) hro
    have xx:Fz (callG κ1' (T1++T2) ((F1++F2)++([]++[]))) κ2 (fun _=>True):=(x1.mono fun _ _=>trivial).trans (x2.mono fun _ _=>trivial)
    have hcg:∀ b,callG κ1' (T1++T2) ((F1++F2)++([]++[])) b≠none→κ1' b≠none:=fun b hb e=>hb (by simp[callG,e])
    have hkey:∀ b K,callG κ1' (T1++T2) ((F1++F2)++([]++[])) b=some (.key K)→K.1≤args.length:=fun b K hb=>by
     unfold callG at hb
     split at hb
     ·rename_i K0 hK0
      split at hb
      ·rename_i y hy
       injection hb with hb
       injection hb with hb
       have:=(cc.tk y (List.mem_of_find?_eq_some hy)).2.2 K0.2
       rw[hb] at this
       omega
      ·split at hb<;>cases hb
     ·rename_i hne
      exact absurd hb (hne _)
    refine ⟨S.fr.defers,_,?_,_,rfl,κ2,hrv2,hro2,ST.trans ⟨rfl,rfl,rfl,Nat.le_refl _,fun _ _ _=>rfl,fun b hb=>(xx.imm w' b (SP.imm b hb)).1,fun b _ hb=>?_,fun _ C _ _ h=>⟨C,h,rfl⟩⟩,fun b x hb=>?_,fun b id p hb=>?_⟩
    ·unfold results
     rw[Array.mapM_eq_mapM_toList]
     have e2:∀ X:Sem (List Value),(List.toArray <$>X).run P w'=(X.run P w').andThen fun l w=> .ok l.toArray w:=fun X=>by
      show Sem.run P (X>>=fun l=>pure l.toArray) w'=_
      simp only[Sem.run_bind,Sem.run_pure]
     rw[Sem.run_bind,e2]
     refine (congrArg (fun r=>Result.andThen (Result.andThen r fun l w=> .ok l.toArray w) _) hrun).trans ?_
     simp only[Result.andThen_ok,Sem.run_pure]
    ·rcases xx b with e | ⟨_,K,_,e⟩
     ·rw[e];simp[callG,hb]
     ·simp[callG,hb] at e
    ·cases e:κ1' b with
     | some x'=>exact S.rel.low b x' e
     | none=>
      rcases xx b with e2 | ⟨_,K,_,e2⟩
      ·rw[e2] at hb;simp[callG,e] at hb
      ·simp[callG,e] at e2
    ·rcases xx b with e2 | ⟨e2,_⟩
     ·rw[e2] at hb;exact hkey b _ hb
     ·rw[e2] at hb;cases hb
   ·exact hk.elim
  cases e with
  | normal=>
   obtain ⟨n,s,h,κ',m,hk,S,ST⟩:=hq
   exact fin S ST hk
  | ret=>
   obtain ⟨n,s,h,κ',m,hk,S,ST⟩:=hq
   exact fin S ST hk
  | exit i=>
   obtain ⟨n,s,h,κ',m,hk,S,ST⟩:=hq
   exact hk.elim
  | _=>exact (show False from hq).elim
end
end Go.Proofs.VI
end
