/- VI: values, a private heap for each call, and what code comes to; part 2. -/
import Derived.Test.YtjlonhiojgljcaaGreatL1
section
set_option linter.unusedVariables false
set_option linter.unusedSimpArgs false
namespace Go.Proofs.VI
open Go
section
variable {P:Program} {w w':World} {κ κ':Gh} {m m':Nat→Addr} {n n':Nat} {s:Slots} {h h':Heap} {a:Act} {L L':AV→Value→Prop} {tt:TypeId→Option TI}
theorem relCell_to {id n r c r' c':Nat} {hs hs':List Hole} {v:AV} {u:Value} (hI:ImmMap w w' κ κ') (hL:∀ v u,L v u→L' v u) (hf:findHole hs' r' c'=findHole hs r c) (hK:KeyMap w w' κ κ' (some (id,[(r,c)])) (some (n,[(r',c')]))) (hc:relCell w κ L id hs r c v u):relCell w' κ' L' n hs' r' c' v u:=by
 unfold relCell at hc⊢
 rw[hf]
 cases e:findHole hs r c with
 | some i=>rw[e] at hc;exact hL _ _ hc
 | none=>rw[e] at hc;exact relV_move hI (fun _ _ h=>h) v _ _ u hK hc
theorem sub_get {rs:List (List AV)} {lo len i:Nat} {row:List AV} (hi:((rs.drop lo).take len)[i]?=some row):i < len∧rs[lo+i]?=some row:=by
 rw[List.getElem?_take] at hi
 split at hi
 ·rw[List.getElem?_drop] at hi
  exact ⟨by assumption,hi⟩
 ·cases hi
theorem list_sub {C:Array Value} {o N p:Nat} {u:Value} (hp:((C.toList.drop o).take N)[p]?=some u):C[o+p]?=some u:=by
 rw[List.getElem?_take] at hp
 split at hp
 ·rw[List.getElem?_drop] at hp
  simpa using hp
 ·cases hp
theorem list_sub' {C:Array Value} {o N p:Nat} {u:Value} (hp:C[o+p]?=some u) (hN:p < N):((C.toList.drop o).take N)[p]?=some u:=by
 rw[List.getElem?_take,if_pos hN,List.getElem?_drop]
 simpa using hp
theorem rows_lay {id k:Nat} {rs:List (List AV)} {hs:List Hole} {C:Array Value} {off lo len:Nat} (hrr:relHRs w κ L id hs k 0 rs C off) (hk:k≠0) (hle:lo+len≤rs.length):
  ((C.toList.drop (off+lo*k)).take (len*k)).length=len*k∧∀ i row,((rs.drop lo).take len)[i]?=some row→row.length=k∧∀ j v,row[j]?=some v→∃ u,((C.toList.drop (off+lo*k)).take (len*k))[i*k+j]?=some u∧relCell w κ L id hs (lo+i) j v u:=by
 constructor
 ·by_cases h0:len=0
  ·subst h0;simp
  ·have:=relHRs_len hrr (fun e=>by rw[e] at hle;simp at hle;omega) hk
   have h2:(lo+len)*k≤rs.length*k:=Nat.mul_le_mul_right _ hle
   rw[Nat.add_mul] at h2
   simp
   omega
 ·intro i row hi
  obtain ⟨h1,h2⟩:=sub_get hi
  obtain ⟨g1,g2⟩:=relHRs_get hrr h2
  refine ⟨g1,fun j v hv=>?_⟩
  obtain ⟨u,hu,hr⟩:=relHRow_get g2 hv
  have hj:j < k:=by have:=(List.getElem?_eq_some_iff.1 hv).1;omega
  rw[Nat.zero_add,Nat.zero_add] at hr
  refine ⟨u,list_sub' ?_ (rows_lt h1 hj),hr⟩
  rw[show off+lo*k+(i*k+j)=off+(lo+i)*k+j by rw[Nat.add_mul];omega]
  exact hu
theorem ro_lay {k:Nat} {rs:List (List AV)} {C:Array Value} {off:Nat} (hrr:relRs w κ none k 0 rs C off) (hk:k≠0) (h0:rs≠ []):
  ((C.toList.drop off).take (rs.length*k)).length=rs.length*k∧∀ i row,rs[i]?=some row→row.length=k∧∀ j v,row[j]?=some v→∃ u,((C.toList.drop off).take (rs.length*k))[i*k+j]?=some u∧relV w κ noL none v u:=by
 have hget:∀ i row,rs[i]?=some row→row.length=k∧∀ j v,row[j]?=some v→∃ u,C[off+(i*k+j)]?=some u∧relV w κ noL none v u:=fun i row hi=>by
  obtain ⟨g1,g2⟩:=relRs_get hrr hi
  refine ⟨g1,fun j v hv=>?_⟩
  obtain ⟨u,hu,hr⟩:=relRow_get g2 hv
  exact ⟨u,by rw[show off+(i*k+j)=off+i*k+j by omega];exact hu,by simpa [kid] using hr⟩
 constructor
 ·have hp:0 < rs.length:=List.length_pos_iff.2 h0
  obtain ⟨g1,g2⟩:=hget (rs.length - 1) rs[rs.length - 1] (List.getElem?_eq_getElem _)
  have hkk:k - 1 < (rs[rs.length - 1]).length:=by omega
  obtain ⟨u,hu,_⟩:=g2 (k - 1) _ (List.getElem?_eq_getElem hkk)
  have:=(Array.getElem?_eq_some_iff.1 hu).1
  have e:(rs.length - 1)*k+k=rs.length*k:=by rw[←Nat.succ_mul];congr 1;omega
  simp
  omega
 ·intro i row hi
  obtain ⟨g1,g2⟩:=hget i row hi
  refine ⟨g1,fun j v hv=>?_⟩
  obtain ⟨u,hu,hr⟩:=g2 j v hv
  have hj:j < k:=by have:=(List.getElem?_eq_some_iff.1 hv).1;omega
  exact ⟨u,list_sub' hu (rows_lt (List.getElem?_eq_some_iff.1 hi).1 hj),hr⟩
theorem relV_up {K:Option Key} {v:AV} {u:Value} (hv:relV w κ noL none v u) (hp:plainC v):relV w κ noL K v u:=by
 cases v with
 | und=>exact hp.elim
 | agg l=>exact hp.elim
 | tup l=>exact hp.elim
 | ow k rows=>
  obtain ⟨A,cap,hu,hl,h⟩:=hv
  refine ⟨A,cap,hu,hl,?_⟩
  rcases h with h | ⟨b,off,C,t,fr,hA,hb,hf,hk,hs,hr⟩
  ·exact .inl h
  ·exact hk.elim
 | pb row=>
  obtain ⟨b,off,C,t,fr,hA,hb,hf,hk,hr⟩:=hv
  exact hk.elim
 | _=>exact hv
theorem appX_nils {k id:Nat} {A:Option Addr}:AppX w κ L n k id 0 [] [] A 0 [] where
 cap_:=Nat.le_refl _
 olen:=by simp
 mem:= .inl rfl
 cells j u hj:=by simp at hj
 lay w' κ' L' _ _ _:=⟨by simp,fun i row hi=>by simp at hi⟩
theorem appX_rows (R:Rel w κ m n s h a) {id k lo len:Nat} {rs:List (List AV)} {hs:List Hole} (hb:h id=some (.rows k rs hs)) (hk:k≠0) (hhs:hs=[]∨lo=0) (hle:lo+len≤rs.length) {A:Option Addr} {cap:Nat} (hcap:len≤cap)
  (hr:cap=0∨(A=some ⟨(m id).block,(m id).off+lo*k,none⟩∧HasBlk w κ (m id) id k ((lo+cap)*k))):∃ olds,AppX w κ (liveV w κ m n h) n k id lo ((rs.drop lo).take len) hs A cap olds:=by
 have hlen:((rs.drop lo).take len).length=len:=by simp;omega
 rcases hr with e0 | ⟨hA,hB⟩
 ·have:len=0:=by omega
  subst this
  refine ⟨[],⟨by simp,by simp,.inl e0,fun j u hj=>by simp at hj,fun w' κ' L' _ _ _=>⟨by simp,fun i row hi=>by simp at hi⟩⟩⟩
 ·obtain ⟨hsp,C,t,fr,hw,hfr,hκ,hsz⟩:=hB
  have hmem:cap=0∨∃ b off C t fr,A=some ⟨b,off,none⟩∧w.heap[b]?=some (.cells C t fr)∧freeC k C fr∧κ b=some (.key (id,[]))∧off+cap*k≤C.size:=by
   refine .inr ⟨_,_,C,t,fr,hA,hw,hfr,hκ,?_⟩
   rw[Nat.add_mul] at hsz;omega
  rcases (R.blk id _ hb).2 with e | ⟨_,C',t',fr',hw',_,_,hrr⟩
  ·subst e
   simp at hle
   obtain ⟨rfl,rfl⟩:lo=0∧len=0:=by omega
   exact ⟨[],⟨by simp,by simp,hmem,fun j u hj=>by simp at hj,fun w' κ' L' _ _ _=>⟨by simp,fun i row hi=>by simp at hi⟩⟩⟩
  ·rw[hw] at hw';cases hw'
   obtain ⟨g1,g2⟩:=rows_lay hrr hk hle
   refine ⟨_,⟨by rw[hlen];exact hcap,by rw[g1,hlen],hmem,fun j u hj=>⟨_,_,hA,by rw[cell_of_heap hw];exact list_sub hj⟩,fun w' κ' L' hI hL hK=>⟨by rw[g1,hlen],fun i row hi=>⟨(g2 i row hi).1,fun j v hv=>?_⟩⟩⟩⟩
   obtain ⟨u,hu,hr⟩:=(g2 i row hi).2 j v hv
   refine ⟨u,hu,relCell_to hI hL ?_ (hK i j) hr|>fun x=>by rw[Nat.zero_add];exact x⟩
   rcases hhs with rfl | rfl
   ·rfl
   ·rw[Nat.zero_add]
theorem appY_nil {k id2 add:Nat} {y:Value} (hk:y= .slice none 0 0∨∃ A cap,y= .slice A 0 cap):AppY P w κ L n k id2 0 add [] [] y [] where
 len w:=by rcases hk with rfl | ⟨A,cap,rfl⟩<;>simp[Builtin.lenOf]
 first w' _:=by
  rcases hk with rfl | ⟨A,cap,rfl⟩
  ·exact run_firstCells_none _ _ _ _ _
  ·cases A with
   | none=>exact run_firstCells_none _ _ _ _ _
   | some ad=>exact run_firstCells_some w' k 0 ad 0 cap [] (by simp) (fun j u hj=>by simp at hj)
 one v hv:=by simp at hv
 nlen:=by simp
 lay w' κ' L' _ _ _:=⟨by simp,fun i row hi=>by simp at hi⟩
theorem first_of {A:Option Addr} {N cap k:Nat} {b off:Nat} (hA:A=some ⟨b,off,none⟩) {us:List Value} (hl:us.length=N*k) (hc:∀ p u,us[p]?=some u→w.cell? ⟨b,off+p,none⟩=some u):∀ w':World,w'.heap=w.heap→(Builtin.firstCells k N (.slice A N cap)).run P w'= .ok us.toArray w':=fun w' hw'=>by
 subst hA
 refine run_firstCells_some w' k N _ N cap us hl fun j u hj=>?_
 rw[add_plain]
 simpa [World.cell?,hw'] using hc j u hj
theorem appY_ro {k id2 add:Nat} (hk:k≠0) {rows:List (List AV)} {y:Value} (hy:relV w κ L none (.ro k rows) y) (hp:plainRows rows):∃ news,AppY P w κ L n k id2 0 add rows [] y news:=by
 obtain ⟨A,cap,hu,hcap,hr⟩:=hy
 by_cases h0:rows=[]
 ·subst h0;exact ⟨[],appY_nil (.inr ⟨A,cap,hu⟩)⟩
 ·rcases hr with e | ⟨b,off,C,t,fr,hA,hw,hκ,hr⟩
  ·exact absurd e h0
  ·obtain ⟨g1,g2⟩:=ro_lay hr hk h0
   refine ⟨_,⟨fun w=>by rw[hu];simp[Builtin.lenOf],?_,fun v hv=>?_,g1,fun w' κ' L' hI hL hK=>⟨g1,fun i row hi=>⟨(g2 i row hi).1,fun j v hv=>?_⟩⟩⟩⟩
   ·rw[hu]
    exact first_of hA g1 fun p u hp=>by rw[cell_of_heap hw];exact list_sub hp
   ·obtain ⟨p,hp',hv⟩:=List.mem_iff_getElem.1 hv
    have hlt:p < rows.length*k:=by rw[g1] at hp';exact hp'
    have hk0:0 < k:=Nat.pos_of_ne_zero hk
    have hi:p/k < rows.length:=(Nat.div_lt_iff_lt_mul hk0).2 hlt
    obtain ⟨e1,e2⟩:=g2 (p/k) _ (List.getElem?_eq_getElem hi)
    have hj:p % k < (rows[p/k]).length:=by rw[e1];exact Nat.mod_lt _ hk0
    obtain ⟨u,hu',hr'⟩:=e2 (p % k) _ (List.getElem?_eq_getElem hj)
    have:p/k*k+p % k=p:=by rw[Nat.mul_comm];exact Nat.div_add_mod p k
    rw[this,List.getElem?_eq_getElem hp',hv] at hu'
    injection hu' with hu';subst hu'
    exact plain_one hr' (plainRows_get hp (List.getElem?_eq_getElem hi) (List.getElem?_eq_getElem hj))
   ·obtain ⟨u,hu',hr'⟩:=(g2 i row hi).2 j v hv
    refine ⟨u,hu',?_⟩
    exact relV_up (relV_move hI (fun _ _ h=>h) v none none u .none_ hr') (plainRows_get hp hi hv)
theorem appY_str {id2 add:Nat} {b:ByteArray}:∃ news,AppY P w κ L n 1 id2 0 add (strRows b) [] (.string b) news:=by
 have hx:(b.extract 0 b.size)=b:=by
  rw[show b.extract 0 b.size=b from by cases b with | mk d=>simp[ByteArray.extract,ByteArray.copySlice,ByteArray.size]]
 refine ⟨b.data.toList.map (fun c=>Value.int .u8 c.toNat),⟨fun w=>by simp[Builtin.lenOf,strRows_len],fun w' _=>?_,fun v hv=>?_,by simp[strRows],fun w' κ' L' _ _ _=>⟨by simp[strRows],fun i row hi=>?_⟩⟩⟩
 ·rw[strRows_len]
  simp only[Builtin.firstCells,hx]
  show Result.ok _ w'=_
  congr 1
  apply Array.ext'
  simp
 ·obtain ⟨c,_,rfl⟩:=List.mem_map.1 hv;rfl
 ·obtain ⟨c,hc,rfl⟩:=strRows_get hi
  refine ⟨rfl,fun j v hv=>?_⟩
  cases j with
  | zero=>
   simp at hv;subst hv
   refine ⟨.int .u8 c.toNat,?_,rfl⟩
   rw[Nat.mul_one,Nat.add_zero,List.getElem?_map]
   have:b.data.toList[i]?=some c:=by simpa using hc
   rw[this];rfl
  | succ j=>simp at hv
theorem appY_rows (R:Rel w κ m n s h a) {id k lo len add:Nat} {rs:List (List AV)} {hs:List Hole} (hb:h id=some (.rows k rs hs)) (hk:k≠0) (hhs:hs=[]∨lo=0) (hle:lo+len≤rs.length) {A:Option Addr} {cap:Nat} {y:Value} (hy:y= .slice A len cap) (hcap:len≤cap)
  (hr:cap=0∨(A=some ⟨(m id).block,(m id).off+lo*k,none⟩∧HasBlk w κ (m id) id k ((lo+cap)*k))) (hp:plainRows ((rs.drop lo).take len)):∃ news,AppY P w κ (liveV w κ m n h) n k id lo add ((rs.drop lo).take len) (shift add hs) y news:=by
 have hlen:((rs.drop lo).take len).length=len:=by simp;omega
 by_cases h0:len=0
 ·subst h0
  simp only[List.take_zero]
  refine ⟨[],⟨fun w=>by rw[hy];simp[Builtin.lenOf],fun w' _=>?_,fun v hv=>by simp at hv,by simp,fun w' κ' L' _ _ _=>⟨by simp,fun i row hi=>by simp at hi⟩⟩⟩
  rw[hy]
  cases A with
  | none=>exact run_firstCells_none _ _ _ _ _
  | some ad=>exact run_firstCells_some w' k 0 ad 0 cap [] (by simp) (fun j u hj=>by simp at hj)
 ·rcases hr with e0 | ⟨hA,hB⟩
  ·omega
  ·obtain ⟨hsp,C,t,fr,hw,hfr,hκ,hsz⟩:=hB
   rcases (R.blk id _ hb).2 with e | ⟨_,C',t',fr',hw',_,_,hrr⟩
   ·subst e;simp at hle;omega
   ·rw[hw] at hw';cases hw'
    obtain ⟨g1,g2⟩:=rows_lay hrr hk hle
    refine ⟨_,⟨fun w=>by rw[hy,hlen];simp[Builtin.lenOf],?_,fun v hv=>?_,by rw[g1,hlen],fun w' κ' L' hI hL hK=>⟨by rw[g1,hlen],fun i row hi=>⟨(g2 i row hi).1,fun j v hv=>?_⟩⟩⟩⟩
    ·rw[hy,hlen]
     exact first_of hA g1 fun p u hp=>by rw[cell_of_heap hw];exact list_sub hp
    ·obtain ⟨p,hp',hv⟩:=List.mem_iff_getElem.1 hv
     have hlt:p < len*k:=by rw[g1] at hp';exact hp'
     have hk0:0 < k:=Nat.pos_of_ne_zero hk
     have hi:p/k < ((rs.drop lo).take len).length:=by rw[hlen];exact (Nat.div_lt_iff_lt_mul hk0).2 hlt
     obtain ⟨e1,e2⟩:=g2 (p/k) _ (List.getElem?_eq_getElem hi)
     have hj:p % k < (((rs.drop lo).take len)[p/k]).length:=by rw[e1];exact Nat.mod_lt _ hk0
     obtain ⟨u,hu',hr'⟩:=e2 (p % k) _ (List.getElem?_eq_getElem hj)
     have:p/k*k+p % k=p:=by rw[Nat.mul_comm];exact Nat.div_add_mod p k
     rw[this,List.getElem?_eq_getElem hp',hv] at hu'
     injection hu' with hu';subst hu'
     exact plain_oneC hr' (plainRows_get hp (List.getElem?_eq_getElem hi) (List.getElem?_eq_getElem hj))
    ·obtain ⟨u,hu',hr'⟩:=(g2 i row hi).2 j v hv
     refine ⟨u,hu',relCell_to hI hL ?_ (hK i j) hr'⟩
     rcases hhs with rfl | rfl
     ·rfl
     ·rw[shift_find,Nat.zero_add]
end
end Go.Proofs.VI
end
section
set_option linter.unusedVariables false
set_option linter.unusedSimpArgs false
namespace Go.Proofs.VI
open Go
section
variable {P:Program} {w w':World} {κ κ':Gh} {m m':Nat→Addr} {n n':Nat} {s:Slots} {h h':Heap} {a:Act} {L L':AV→Value→Prop} {tt:TypeId→Option TI}
theorem relV_free {K K':Option Key} {v:AV} {u:Value} (hv:relV w κ noL K v u) (hp:plainC v) (hn:(∀ k rs,v≠ .ow k rs)∧(∀ r,v≠ .pb r)):relV w κ noL K' v u:=by
 cases v with
 | und=>exact hp.elim
 | agg l=>exact hp.elim
 | tup l=>exact hp.elim
 | ow k rows=>exact absurd rfl (hn.1 k rows)
 | pb row=>exact absurd rfl (hn.2 row)
 | _=>exact hv
theorem appY_copy (R:Rel w κ m n s h a) {id id2 k lo len add:Nat} {rs:List (List AV)} (hb:h id=some (.rows k rs [])) (hk:k≠0) (hle:lo+len≤rs.length) {A:Option Addr} {cap:Nat} {y:Value} (hy:y= .slice A len cap) (hcap:len≤cap)
  (hr:cap=0∨(A=some ⟨(m id).block,(m id).off+lo*k,none⟩∧HasBlk w κ (m id) id k ((lo+cap)*k))) (hp:plainRows ((rs.drop lo).take len)) (hno:noOw ((rs.drop lo).take len)):∃ news,AppY P w κ (liveV w κ m n h) n k id2 0 add ((rs.drop lo).take len) [] y news:=by
 obtain ⟨news,Y⟩:=appY_rows (P:=P) (add:=add) R hb hk (.inl rfl) hle hy hcap hr hp
 have hlen:((rs.drop lo).take len).length=len:=by simp;omega
 refine ⟨news,⟨Y.len,Y.first,Y.one,Y.nlen,fun w' κ' L' hI hL _=>⟨Y.nlen,fun i row hi=>?_⟩⟩⟩
 by_cases h0:len=0
 ·subst h0;simp at hi
 ·have Y0:=Y.lay w κ _ (fun b hb=>⟨hb,rfl⟩) (fun v u h=>h)
  rcases hr with e0 | ⟨hA,hB⟩
  ·omega
  ·obtain ⟨hsp,C,t,fr,hw,hfr,hκ,hsz⟩:=hB
   rcases (R.blk id _ hb).2 with e | ⟨_,C',t',fr',hw',_,_,hrr⟩
   ·subst e;simp at hi
   ·rw[hw] at hw';cases hw'
    obtain ⟨g1,g2⟩:=rows_lay hrr hk hle
    have hnews:news=(C.toList.drop ((m id).off+lo*k)).take (len*k):=by
     have e1:=first_of (P:=P) (w:=w) (N:=len) (cap:=cap) hA g1 (fun p u hp=>by rw[cell_of_heap hw];exact list_sub hp) w rfl
     have e2:=Y.first w rfl
     rw[hlen,hy,e1] at e2
     cases e2
     rfl
    obtain ⟨d1,d2⟩:=g2 i row hi
    refine ⟨d1,fun j v hv=>?_⟩
    obtain ⟨u,hu,hr⟩:=d2 j v hv
    rw[←hnews] at hu
    refine ⟨u,hu,?_⟩
    have hr:relV w κ noL (some (id,[(lo+i,j)])) v u:=hr
    show relV w' κ' noL (some (n,[(add+i,j)])) v u
    have hpl:=plainRows_get hp hi hv
    have hfree:=hno row (List.mem_of_getElem? hi) v (List.mem_of_getElem? hv)
    exact relV_up (relV_move hI (fun _ _ h=>h) v none none u .none_ (relV_free hr hpl ⟨fun k rs e=>by subst e;exact hfree,fun r e=>by subst e;exact hfree⟩)) hpl
theorem ok_append (TT:TOk P tt) (R:Rel w κ m n s h a) {o:Oper} {c:Call} (ho:o.op= .call c) (hc:c.callee= .builtin .append) {x y:Operand} (hxs:c.args.toList=[x,y]) {t t2 e:TypeId} {ts:List TypeId} (hts:c.argTypes.toList=t::t2::ts)
  {i0 i j:TI} (ht0:tt t=some i0) (hk0:i0.kind= .slice e) (ht:tt e=some i) (ht2:tt t2=some j) (hkj:j.kind= .str∨∃ e,j.kind= .slice e) {vx vy:AV} (hvx:relV w κ (liveV w κ m n h) none vx (a.eval x)) (hvy:relV w κ (liveV w κ m n h) none vy (a.eval y))
  {K:Bool→Nat→AV→Heap→Prop} (hkk:append n i vx vy h fun n v h=>K true n v h):OpOk P o K w κ m n s h a:=by
 have hu:=TT.kind t i0 ht0
 rw[hk0] at hu
 have hu2:P.underlying t2=some .string∨∃ e,P.underlying t2=some (.slice e):=by
  have:=TT.kind t2 j ht2
  rcases hkj with e | ⟨e',e⟩
  ·rw[e] at this;exact .inl this
  ·rw[e] at this;exact .inr ⟨_,this⟩
 obtain ⟨f,z,h1,h2,hs,hbt,h3,h4,h5,h6⟩:=run_zero TT ht
 obtain ⟨_,_,_,_,_,_,_,_,hsz0,hb0,_⟩:=TT.info e i ht
 have a0:c.argTypes[0]?=some t:=by
  have:c.argTypes.toList[0]?=some t:=by rw[hts];rfl
  simpa using this
 have a1:c.argTypes[1]?=some t2:=by
  have:c.argTypes.toList[1]?=some t2:=by rw[hts];rfl
  simpa using this
 have T:AppT P c.argTypes e i.size i.bytes z:=⟨⟨t,a0,hu⟩,⟨t2,a1,hu2⟩,⟨f,h1,hs,hbt,h2⟩,hb0⟩
 have tail:∀ {id lo:Nat} {base:List (List AV)} {hs:List Hole} {A:Option Addr} {cap:Nat} {olds:List Value} {h1:Heap},a.eval x= .slice A base.length cap→AppX w κ (liveV w κ m n h) n i.size id lo base hs A cap olds→holesLt base.length hs→(∀ q,h1 q=none∨(h1 q=h q∧q≠id))→id≠n+2→appendTo n i base hs h1 vy (fun n v h=>K true n v h)→OpOk P o K w κ m n s h a:=by
  intro id lo base hs A cap olds h1 hx X hhs hh hid hk
  have go:∀ {id2:Nat} {rows:List (List AV)} {hs2:List Hole} {news:List Value} {h2:Heap},id≠id2→AppY P w κ (liveV w κ m n h) n i.size id2 0 base.length rows hs2 (a.eval y) news→(base.length+rows.length)*i.bytes≤140737488355328→(∀ q c,q < base.length→findHole hs2 q c=none)→
    (∀ q,h2 q=none∨(h2 q=h1 q∧q≠id2))→K true (n+1) (.own n) (upd h2 n (some (.rows i.size (base++rows) (hs2++hs))))→OpOk P o K w κ m n s h a:=by
   intro id2 rows hs2 news h2 hne Y hb hhs2 hh2 hk
   refine ok_app R ho hc hxs T h4 hx hne X Y hb hhs hhs2 (upd_eq _ _ _) (fun q hq=>?_) (fun q hq=>?_) hk
   ·rw[upd_ne _ _ (by omega)]
    rcases hh2 q with e | ⟨e,e'⟩
    ·exact .inl e
    ·rcases hh q with e2 | ⟨e2,e3⟩
     ·exact .inl (by rw[e,e2])
     ·exact .inr ⟨by rw[e,e2],e3,e'⟩
   ·rw[upd_ne _ _ (by omega)]
    have hq0:=R.gt (i:=q) (by omega)
    rcases hh2 q with e | ⟨e,_⟩
    ·exact e
    ·rcases hh q with e2 | ⟨e2,_⟩
     ·rw[e,e2]
     ·rw[e,e2,hq0]
  have dummy:∀ q,h1 q=none∨(h1 q=h1 q∧q≠n+2):=fun q=>by
   by_cases e:q=n+2
   ·left
    rcases hh q with e2 | ⟨e2,_⟩
    ·exact e2
    ·rw[e2];exact R.gt (by omega)
   ·exact .inr ⟨rfl,e⟩
  unfold appendTo at hk
  cases vy with
  | nils=>
   obtain ⟨A2,hy⟩:=hvy
   refine go (id2:=n+2) (rows:=[]) (hs2:=[]) hid (appY_nil (.inr ⟨A2,0,hy⟩)) (by simpa using hk.1) (fun _ _ _=>rfl) dummy ?_
   simpa using hk.2
  | ro k rows=>
   simp only at hk
   cases hq:Nat.beq k i.size with
   | false=>rw[hq] at hk;exact hk.elim
   | true=>
    rw[hq,cond_true] at hk
    have hq:=Nat.eq_of_beq_eq_true hq
    subst hq
    obtain ⟨g1,g2,g3⟩:=hk
    obtain ⟨news,Y⟩:=appY_ro (P:=P) (n:=n) (id2:=n+2) (add:=base.length) hsz0 hvy g2
    exact go hid Y g1 (fun _ _ _=>rfl) dummy g3
  | str b=>
   simp only at hk
   cases hq:Nat.beq i.size 1 with
   | false=>rw[hq] at hk;exact hk.elim
   | true=>
    rw[hq,cond_true] at hk
    have hq:=Nat.eq_of_beq_eq_true hq
    have hy:a.eval y= .string b:=hvy
    obtain ⟨news,Y⟩:=appY_str (P:=P) (w:=w) (κ:=κ) (L:=liveV w κ m n h) (n:=n) (id2:=n+2) (add:=base.length) (b:=b)
    rw[←hq,←hy] at Y
    refine go hid Y (by rw[strRows_len];exact hk.1) (fun _ _ _=>rfl) dummy ?_
    rw[hq]
    exact hk.2
  | own id2=>
   simp only at hk
   split at hk
   ·rename_i k rows hs2 hb
    have hb':h id2=some (.rows k rows hs2):=by
     rcases hh id2 with e | ⟨e,_⟩
     ·rw[e] at hb;cases hb
     ·rw[←e];exact hb
    have hne:id≠id2:=fun e=>by
     rcases hh id2 with e2 | ⟨_,e2⟩
     ·rw[e2] at hb;cases hb
     ·exact e2 e.symm
    cases hq:Nat.beq k i.size with
    | false=>rw[hq] at hk;exact hk.elim
    | true=>
     rw[hq,cond_true] at hk
     have hq:=Nat.eq_of_beq_eq_true hq
     subst hq
     obtain ⟨g1,g2,g3⟩:=hk
     obtain ⟨A2,cap2,hy,hcap2,hr2⟩:=own_slice hvy hb'
     obtain ⟨news,Y⟩:=appY_rows (P:=P) (add:=base.length) (lo:=0) (len:=rows.length) R hb' hsz0 (.inr rfl) (by omega) hy hcap2 (hr2.imp (fun e=>e) fun ⟨e1,e2⟩=>⟨by rw[e1,Nat.zero_mul,Nat.add_zero,←own_addr e2],by rw[Nat.zero_add];exact e2⟩) (by simpa using g2)
     simp only[List.drop_zero,List.take_length] at Y
     rw[catH_eq] at g3
     exact go hne Y g1 (fun q c hq=>shift_low _ _ _ _ hq) (fun q=>by
      by_cases e:q=id2
      ·subst e;exact .inl (upd_eq _ _ _)
      ·exact .inr ⟨upd_ne _ _ e,e⟩) g3
   ·exact hk.elim
  | sl id2 off len=>
   simp only at hk
   split at hk
   ·rename_i k rows hb
    have hb':h id2=some (.rows k rows []):=by
     rcases hh id2 with e | ⟨e,_⟩
     ·rw[e] at hb;cases hb
     ·rw[←e];exact hb
    cases hq:Nat.beq k i.size with
    | false=>rw[hq] at hk;exact hk.elim
    | true=>
     rw[hq,cond_true] at hk
     have hq:=Nat.eq_of_beq_eq_true hq
     subst hq
     obtain ⟨g1,g2,g3,g4⟩:=hk
     obtain ⟨hle,A2,cap2,hy,hcap2,hr2⟩:=sl_slice hvy hb'
     obtain ⟨news,Y⟩:=appY_copy (P:=P) (id2:=n+2) (add:=base.length) R hb' hsz0 hle hy hcap2 hr2 g2 g3
     have hlen:((rows.drop off).take len).length=len:=by simp;omega
     exact go hid Y (by rw[hlen];exact g1) (fun _ _ _=>rfl) dummy g4
   ·exact hk.elim
  | _=>exact hk.elim
 unfold append at hkk
 have hk:=hkk
 clear hkk
 cases vx with
 | nils=>
  obtain ⟨A,hx⟩:=hvx
  refine tail (id:=n+1) (base:=[]) (lo:=0) hx appX_nils trivial (fun q=>?_) (by omega) hk
  by_cases e:q=n+1
  ·subst e;exact .inl (R.gt (by omega))
  ·exact .inr ⟨rfl,e⟩
 | own id=>
  simp only at hk
  split at hk
  ·rename_i k rs hs hb
   cases hq:Nat.beq k i.size with
   | false=>rw[hq] at hk;exact hk.elim
   | true=>
    rw[hq,cond_true] at hk
    have hq:=Nat.eq_of_beq_eq_true hq
    subst hq
    obtain ⟨A,cap,hx,hcap,hr⟩:=own_slice hvx hb
    obtain ⟨olds,X⟩:=appX_rows (A:=A) (lo:=0) (len:=rs.length) R hb hsz0 (.inr rfl) (by omega) hcap (hr.imp (fun e=>e) fun ⟨e1,e2⟩=>⟨by rw[e1,Nat.zero_mul,Nat.add_zero,←own_addr e2],by rw[Nat.zero_add];exact e2⟩)
    simp only[List.drop_zero,List.take_length] at X
    refine tail hx X hk.1 (fun q=>?_) (by have:=(R.blk id _ hb).1;omega) hk.2
    by_cases e:q=id
    ·subst e;exact .inl (upd_eq _ _ _)
    ·exact .inr ⟨upd_ne _ _ e,e⟩
  ·exact hk.elim
 | sl id off len=>
  simp only at hk
  split at hk
  ·rename_i k rs hb
   cases hq:Nat.beq k i.size with
   | false=>rw[hq] at hk;exact hk.elim
   | true=>
    rw[hq,cond_true] at hk
    have hq:=Nat.eq_of_beq_eq_true hq
    subst hq
    obtain ⟨hle,A,cap,hx,hcap,hr⟩:=sl_slice hvx hb
    obtain ⟨olds,X⟩:=appX_rows (lo:=off) (len:=len) R hb hsz0 (.inl rfl) hle hcap hr
    have hlen:((rs.drop off).take len).length=len:=by simp;omega
    refine tail (by rw[hlen];exact hx) X trivial (fun q=>?_) (by have:=(R.blk id _ hb).1;omega) hk
    by_cases e:q=id
    ·subst e;exact .inl (upd_eq _ _ _)
    ·exact .inr ⟨upd_ne _ _ e,e⟩
  ·exact hk.elim
 | _=>exact hk.elim
def intOfRow:List AV→Value
 | [.int q z]=> .int q z
 | _=>undef
theorem ok_copy (T:TOk P tt) (R:Rel w κ m n s h a) {o:Oper} {c:Call} (ho:o.op= .call c) (hc:c.callee= .builtin .copy) {x y:Operand} (hxs:c.args.toList=[x,y]) {t e:TypeId} {ts:List TypeId} (hts:c.argTypes.toList=t::ts)
  {i0 i:TI} (ht0:tt t=some i0) (hk0:i0.kind= .slice e) (ht:tt e=some i) (hsz:i.size=1) {vx vy:AV} (hvx:relV w κ (liveV w κ m n h) none vx (a.eval x)) (hvy:relV w κ (liveV w κ m n h) none vy (a.eval y))
  {K:Bool→Nat→AV→Heap→Prop} (hk:copyV vx vy h fun v h=>K true n v h):OpOk P o K w κ m n s h a:=by
 have hu:=T.kind t i0 ht0
 rw[hk0] at hu
 have hu:P.underlying t=some (.slice e):=hu
 have hts':c.argTypes[0]?=some t:=by
  have:c.argTypes.toList[0]?=some t:=by rw[hts];rfl
  simpa using this
 have hxs':c.args= #[x,y]:=by
  apply Array.ext';rw[hxs]
 have fin:∀ {N:Nat} {w':World},(Builtin.copy_ c.argTypes o.type #[a.eval x,a.eval y]).run P w= .ok (goInt N) w'→(execOp a.eval o).run P w= .ok (.value (goInt N)) w':=fun hr=>by
  unfold execOp
  rw[ho]
  simp only[resolve,hc,hxs',Sem.run_bind,Sem.run_pure,Result.andThen_ok,invoke,builtin]
  simp[hr]
 unfold copyV at hk
 split at hk
 ·rename_i id off len
  split at hk
  ·rename_i k rs hb
   split at hk
   ·rename_i k' ys
    cases hq:(Nat.beq k 1&&Nat.beq k' 1) with
    | false=>rw[hq] at hk;exact hk.elim
    | true=>
     rw[hq] at hk
     rw[Bool.and_eq_true] at hq
     have e1:=Nat.eq_of_beq_eq_true hq.1
     have e2:=Nat.eq_of_beq_eq_true hq.2
     subst e1 e2
     obtain ⟨hint,hle,hk⟩:=hk
     obtain ⟨hol,A,cap,hx,hlc,hcap⟩:=sl_slice hvx hb
     obtain ⟨As,caps,hy,hls,hsrc⟩:=hvy
     by_cases hnil:ys=[]
     ·subst hnil
      have hh:upd h id (some (.rows 1 (rs.take off++([]++rs.drop (off+([]:List (List AV)).length))) []))=h:=by
       funext j
       by_cases ej:j=id
       ·subst ej;rw[upd_eq,hb];simp
       ·rw[upd_ne _ _ ej]
      rw[hh] at hk
      have hr:(Builtin.copy_ c.argTypes o.type #[a.eval x,a.eval y]).run P w= .ok (goInt 0) w:=by
       have hl0:(Builtin.firstCells i.size 0 (.slice As 0 caps)).run P w= .ok #[] w:=by
        cases As with
        | none=>rfl
        | some b=>simp only[Builtin.firstCells,Nat.zero_mul];exact run_loadCells_list w b [] (fun j v hj=>by simp at hj)
       rw[hx,hy]
       have hst:∀ b,(storeCells b ([]:List Value)).run P w= .ok () w:=fun b=>rfl
       cases A with
       | none=>simp[Builtin.copy_,hts',run_underlying hu,Builtin.lenOf,run_siz T ht,hl0]
       | some b=>simp[Builtin.copy_,hts',run_underlying hu,Builtin.lenOf,run_siz T ht,hl0,hst]
      unfold OpOk Oper.wp
      rw[fin hr]
      exact ⟨true,n,.int .i64 0,h,κ,m,goInt 0,hk,Nat.le_refl _,rfl,rfl,R,Stp.refl _ _,fun e=>(by cases e),fun _ _ _=>rfl,fun _ _ h=>h⟩
     ·have hpos:0 < ys.length:=by
       cases ys with
       | nil=>exact absurd rfl hnil
       | cons a b=>simp
      obtain ⟨hid,hB⟩:=R.blk id _ hb
      rcases hB with e0 | ⟨hsp,C,t0,fr,hw,hfr,hκ,hrows⟩
      ·subst e0;simp at hol;omega
      rcases hcap with hc0 | ⟨hA,hblk⟩
      ·omega
      rcases hsrc with e0 | ⟨bs,os,Cs,ts',frs,hAs,hws,himm,hrs⟩
      ·exact absurd e0 hnil
      obtain ⟨_,C2,t2,fr2,hw2,_,_,hfit⟩:=hblk
      rw[hw] at hw2
      injection hw2 with hw2
      injection hw2 with hw2 _ _
      subst hw2
      have hus:∀ j v,(ys.map intOfRow)[j]?=some v→w.cell? ((⟨bs,os,none⟩:Addr).add j)=some v:=fun j v hj=>by
       rw[List.getElem?_map] at hj
       cases hyj:ys[j]? with
       | none=>rw[hyj] at hj;cases hj
       | some row=>
        rw[hyj] at hj
        injection hj with hj
        obtain ⟨q,z,rfl⟩:=hint row (List.mem_of_getElem? hyj)
        obtain ⟨_,hrow⟩:=relRs_get hrs hyj
        obtain ⟨u,hu1,hu2⟩:=relRow_get hrow (i:=0) rfl
        have hu2:u= .int q z:=hu2
        subst hu2 hj
        rw[add_plain]
        simp only[Nat.mul_one,Nat.add_zero] at hu1
        simp[World.cell?,hws,hu1,intOfRow]
      have hl0:(Builtin.firstCells i.size ys.length (.slice As ys.length caps)).run P w= .ok (ys.map intOfRow).toArray w:=by
       rw[hAs,hsz]
       simp only[Builtin.firstCells,Nat.mul_one]
       have:=run_loadCells_list (P:=P) w ⟨bs,os,none⟩ (ys.map intOfRow) hus
       rwa [List.length_map] at this
      have h1:∀ v∈ys.map intOfRow,v.oneCell'=true:=fun v hv=>by
       obtain ⟨row,hr,rfl⟩:=List.mem_map.1 hv
       obtain ⟨q,z,rfl⟩:=hint row hr
       rfl
      have hfit':(m id).off+off*1+0+(ys.map intOfRow).length≤C.size:=by rw[List.length_map];omega
      have hst:=run_storeCells_fr (P:=P) (m id).block ((m id).off+off*1) t0 fr (ys.map intOfRow) 0 C w hw hfr hfit' h1
      obtain ⟨f1,f2⟩:=fold_set ((m id).off+off*1) (ys.map intOfRow) 0 C hfit'
      generalize hC':((ys.map intOfRow).zipIdx 0).foldl (fun cs (x:Value×Nat)=>cs.setIfInBounds ((m id).off+off*1+x.2) x.1) C=C' at hst f1 f2
      simp only[Nat.mul_one,Nat.add_zero,List.length_map] at f2 hst
      have hr:(Builtin.copy_ c.argTypes o.type #[a.eval x,a.eval y]).run P w= .ok (goInt ys.length) (w.setRow (m id).block C'):=by
       rw[hx,hy,hA]
       simp[Builtin.copy_,hts',run_underlying hu,Builtin.lenOf,run_siz T ht,Nat.min_eq_left hle,hl0,hst]
      have hget:∀ q row,(rs.take off++(ys++rs.drop (off+ys.length)))[q]?=some row→(off≤q∧q < off+ys.length∧ys[q - off]?=some row)∨(¬ (off≤q∧q < off+ys.length)∧rs[q]?=some row):=fun q row hq=>by
       have ht1:(rs.take off).length=off:=by simp;omega
       by_cases h1:q < off
       ·rw[List.getElem?_append_left (by omega),List.getElem?_take,if_pos h1] at hq
        exact .inr ⟨by omega,hq⟩
       ·rw[List.getElem?_append_right (by omega),ht1] at hq
        by_cases h2:q < off+ys.length
        ·rw[List.getElem?_append_left (by omega)] at hq
         exact .inl ⟨by omega,h2,hq⟩
        ·rw[List.getElem?_append_right (by omega),List.getElem?_drop] at hq
         refine .inr ⟨by omega,?_⟩
         rw[←hq];congr 1;omega
      obtain ⟨R',S'⟩:=R.store (B':= .rows 1 (rs.take off++(ys++rs.drop (off+ys.length))) []) rfl hκ hw f1 (by rw[hb];simp[shp];omega) hid (fun L' hL hI hK hw'=>by
       refine .inr ⟨hsp,C',t0,fr,hw',⟨fun j hj=>hfr.1 j (by omega),fun hk9=>by have:=hfr.2 hk9;omega⟩,hκ,relHRs_mk fun q row hq=>?_⟩
       rw[Nat.zero_add,Nat.mul_one]
       rcases hget q row hq with ⟨g1,g2,g3⟩ | ⟨g1,g2⟩
       ·obtain ⟨kk,z,rfl⟩:=hint row (List.mem_of_getElem? g3)
        refine ⟨rfl,relHRow_mk fun j v hv=>?_⟩
        have hj:j=0:=by
         have:=(List.getElem?_eq_some_iff.1 hv).1
         simp at this;omega
        subst hj
        simp only[List.getElem?_cons_zero,Option.some.injEq] at hv
        subst hv
        refine ⟨.int kk z,?_,rfl⟩
        rw[f2,if_pos (by omega),List.getElem?_map,show (m id).off+q+0 - ((m id).off+off)=q - off by omega,g3]
        rfl
       ·obtain ⟨d1,d2⟩:=relHRs_get hrows g2
        refine ⟨d1,relHRow_mk fun j z hz=>?_⟩
        have hj:j=0:=by have:=(List.getElem?_eq_some_iff.1 hz).1;omega
        subst hj
        obtain ⟨u,hu1,hu2⟩:=relHRow_get d2 hz
        rw[Nat.mul_one] at hu1
        simp only[Nat.zero_add] at hu2⊢
        exact ⟨u,by rw[f2,if_neg (by omega)];exact hu1,relCell_move hI hL (hK _ _) hu2⟩)
      unfold OpOk Oper.wp
      rw[fin hr]
      exact ⟨true,n,.int .i64 ys.length,_,κ,m,goInt ys.length,hk,Nat.le_refl _,rfl,rfl,R',S'.1,fun e=>(by cases e),fun _ _ _=>rfl,S'.2⟩
   ·exact hk.elim
  ·exact hk.elim
 ·exact hk.elim
theorem ok_clear (T:TOk P tt) (R:Rel w κ m n s h a) {o:Oper} {c:Call} (ho:o.op= .call c) (hc:c.callee= .builtin .clear) {x:Operand} (hxs:c.args.toList=[x]) {t e:TypeId} {ts:List TypeId} (hts:c.argTypes.toList=t::ts)
  {i0 i:TI} (ht0:tt t=some i0) (hk0:i0.kind= .slice e) (ht:tt e=some i) {vx:AV} (hvx:relV w κ (liveV w κ m n h) none vx (a.eval x))
  {K:Bool→Nat→AV→Heap→Prop} (hk:clearV i.zero vx h fun v h=>K true n v h):OpOk P o K w κ m n s h a:=by
 have hu:=T.kind t i0 ht0
 rw[hk0] at hu
 have hu:P.underlying t=some (.slice e):=hu
 have hts':c.argTypes[0]?=some t:=by
  have:c.argTypes.toList[0]?=some t:=by rw[hts];rfl
  simpa using this
 have hxs':c.args= #[x]:=by
  apply Array.ext';rw[hxs]
 have fin:∀ {w':World},(Builtin.clear_ c.argTypes o.type #[a.eval x]).run P w= .ok (.tuple #[]) w'→(execOp a.eval o).run P w= .ok (.value (.tuple #[])) w':=fun hr=>by
  unfold execOp
  rw[ho]
  simp only[resolve,hc,hxs',Sem.run_bind,Sem.run_pure,Result.andThen_ok,invoke,builtin]
  simp[hr]
 unfold clearV at hk
 split at hk
 ·rename_i id off len
  split at hk
  ·rename_i k rs hb
   split at hk
   ·rename_i s0 hz0
    cases hq:Nat.beq k 1 with
    | false=>rw[hq] at hk;exact hk.elim
    | true=>
     rw[hq] at hk
     have e1:=Nat.eq_of_beq_eq_true hq
     subst e1
     have hk:K true n (.tup []) (upd h id (some (.rows 1 (rs.take off++(List.replicate len [.str s0]++rs.drop (off+len))) []))):=hk
     obtain ⟨hol,A,cap,hx,hlc,hcap⟩:=sl_slice hvx hb
     obtain ⟨f,z,_,_,_,_,hzv,hzs,hzl,hzc⟩:=run_zero T ht
     have hz1:z.cells.size=1:=by rw[hzs,←hzl,hz0];rfl
     have hzr:z.cells= #[.string s0]:=by
      have h0:z.cells.toList[0]?=some (z.cells[0]'(by omega)):=by simp
      have h1:=hzc 0 (.str s0) _ (by rw[hz0];rfl) h0
      have h2:z.cells[0]'(by omega)= .string s0:=constB_rel h1 w κ noL none
      apply Array.ext
      ·simp[hz1]
      ·intro j h1 h2'
       have:j=0:=by omega
       subst this
       simpa using h2
     by_cases hnil:len=0
     ·subst hnil
      have hh:upd h id (some (.rows 1 (rs.take off++(List.replicate 0 [.str s0]++rs.drop (off+0))) []))=h:=by
       funext j
       by_cases ej:j=id
       ·subst ej;rw[upd_eq,hb];simp
       ·rw[upd_ne _ _ ej]
      rw[hh] at hk
      have hr:(Builtin.clear_ c.argTypes o.type #[a.eval x]).run P w= .ok (.tuple #[]) w:=by
       rw[hx]
       cases A with
       | none=>simp[Builtin.clear_,hts',run_underlying hu]
       | some b=>simp[Builtin.clear_,hts',run_underlying hu]
      unfold OpOk Oper.wp
      rw[fin hr]
      exact ⟨true,n,.tup [],h,κ,m,.tuple #[],hk,Nat.le_refl _,rfl,⟨[],rfl,rfl⟩,R,Stp.refl _ _,fun e=>(by cases e),fun _ _ _=>rfl,fun _ _ h=>h⟩
     ·obtain ⟨hid,hB⟩:=R.blk id _ hb
      rcases hB with e0 | ⟨hsp,C,t0,fr,hw,hfr,hκ,hrows⟩
      ·subst e0;simp at hol;omega
      rcases hcap with hc0 | ⟨hA,hblk⟩
      ·omega
      obtain ⟨_,C2,t2,fr2,hw2,_,_,hfit⟩:=hblk
      rw[hw] at hw2
      injection hw2 with hw2
      injection hw2 with hw2 _ _
      subst hw2
      have h1:∀ v∈List.replicate len (Value.string s0),v.oneCell'=true:=fun v hv=>by
       rw[List.eq_of_mem_replicate hv];rfl
      have hfit':(m id).off+off*1+0+(List.replicate len (Value.string s0)).length≤C.size:=by rw[List.length_replicate];omega
      have hst:=run_storeCells_fr (P:=P) (m id).block ((m id).off+off*1) t0 fr (List.replicate len (Value.string s0)) 0 C w hw hfr hfit' h1
      obtain ⟨f1,f2⟩:=fold_set ((m id).off+off*1) (List.replicate len (Value.string s0)) 0 C hfit'
      generalize hC':((List.replicate len (Value.string s0)).zipIdx 0).foldl (fun cs (x:Value×Nat)=>cs.setIfInBounds ((m id).off+off*1+x.2) x.1) C=C' at hst f1 f2
      simp only[Nat.mul_one,Nat.add_zero,List.length_replicate] at f2 hst
      have hzz:(Builtin.zeroCells z.cells len).toList=List.replicate len (Value.string s0):=by
       rw[hzr]
       simp[Builtin.zeroCells]
       apply List.ext_getElem
       ·simp
       ·intro i h1 h2
        simp[Nat.mod_one]
      have hr:(Builtin.clear_ c.argTypes o.type #[a.eval x]).run P w= .ok (.tuple #[]) (w.setRow (m id).block C'):=by
       rw[hx,hA]
       obtain ⟨q,rfl⟩:∃ q,len=q+1:=⟨len - 1,by omega⟩
       simp[Builtin.clear_,hts',run_underlying hu,hzv,hzz,hst]
      have hget:∀ q row,(rs.take off++(List.replicate len [.str s0]++rs.drop (off+len)))[q]?=some row→(off≤q∧q < off+len∧row=[.str s0])∨(¬ (off≤q∧q < off+len)∧rs[q]?=some row):=fun q row hq=>by
       have ht1:(rs.take off).length=off:=by simp;omega
       by_cases h1:q < off
       ·rw[List.getElem?_append_left (by omega),List.getElem?_take,if_pos h1] at hq
        exact .inr ⟨by omega,hq⟩
       ·rw[List.getElem?_append_right (by omega),ht1] at hq
        by_cases h2:q < off+len
        ·rw[List.getElem?_append_left (by simp;omega)] at hq
         exact .inl ⟨by omega,h2,List.eq_of_mem_replicate (List.mem_of_getElem? hq)⟩
        ·rw[List.getElem?_append_right (by simp;omega),List.getElem?_drop,List.length_replicate] at hq
         refine .inr ⟨by omega,?_⟩
         rw[←hq];congr 1;omega
      obtain ⟨R',S'⟩:=R.store (B':= .rows 1 (rs.take off++(List.replicate len [.str s0]++rs.drop (off+len))) []) rfl hκ hw f1 (by rw[hb];simp[shp];omega) hid (fun L' hL hI hK hw'=>by
       refine .inr ⟨hsp,C',t0,fr,hw',⟨fun j hj=>hfr.1 j (by omega),fun hk9=>by have:=hfr.2 hk9;omega⟩,hκ,relHRs_mk fun q row hq=>?_⟩
       rw[Nat.zero_add,Nat.mul_one]
       rcases hget q row hq with ⟨g1,g2,g3⟩ | ⟨g1,g2⟩
       ·subst g3
        refine ⟨rfl,relHRow_mk fun j v hv=>?_⟩
        have hj:j=0:=by
         have:=(List.getElem?_eq_some_iff.1 hv).1
         simp at this;omega
        subst hj
        simp only[List.getElem?_cons_zero,Option.some.injEq] at hv
        subst hv
        refine ⟨.string s0,?_,rfl⟩
        rw[f2,if_pos (by omega),List.getElem?_replicate,if_pos (by omega)]
       ·obtain ⟨d1,d2⟩:=relHRs_get hrows g2
        refine ⟨d1,relHRow_mk fun j z hz=>?_⟩
        have hj:j=0:=by have:=(List.getElem?_eq_some_iff.1 hz).1;omega
        subst hj
        obtain ⟨u,hu1,hu2⟩:=relHRow_get d2 hz
        rw[Nat.mul_one] at hu1
        simp only[Nat.zero_add] at hu2⊢
        exact ⟨u,by rw[f2,if_neg (by omega)];exact hu1,relCell_move hI hL (hK _ _) hu2⟩)
      unfold OpOk Oper.wp
      rw[fin hr]
      exact ⟨true,n,.tup [],_,κ,m,.tuple #[],hk,Nat.le_refl _,rfl,⟨[],rfl,rfl⟩,R',S'.1,fun e=>(by cases e),fun _ _ _=>rfl,S'.2⟩
   ·exact hk.elim
  ·exact hk.elim
 ·exact hk.elim
end
end Go.Proofs.VI
end
section
set_option linter.unusedVariables false
set_option linter.unusedSimpArgs false
namespace Go.Proofs.VI
open Go
section
variable {P:Program} {w w':World} {κ κ' κc:Gh} {m m':Nat→Addr} {n n':Nat} {s:Slots} {h h':Heap} {a:Act} {L L':AV→Value→Prop} {tt:TypeId→Option TI}
def ImmKey (κ κc:Gh) (K:Option Key):Prop:=match K with | none=>True | some K=>∀ q b,κ b=some (.key (K.1,K.2++q))→κc b=some .imm
theorem ImmKey.kid {K:Option Key} (hK:ImmKey κ κc K) (r c:Nat):ImmKey κ κc (kid K r c):=by
 cases K with
 | none=>trivial
 | some K=>intro q b hb;exact hK ((r,c)::q) b (by simpa [List.append_assoc] using hb)
theorem ImmKey.owns {K:Option Key} (hK:ImmKey κ κc K) {b:Nat} (hb:owns κ K b):κc b=some .imm:=by
 cases K with
 | none=>exact hb.elim
 | some K=>exact hK [] b (by simpa [VI.owns] using hb)
theorem toRoL_len:∀ (l:List AV),(toRoL l).length=l.length
 | []=>rfl
 | v::l=>by simp[toRoL,toRoL_len l]
theorem toRoRows_len:∀ (l:List (List AV)),(toRoRows l).length=l.length
 | []=>rfl
 | v::l=>by simp[toRoRows,toRoRows_len l]
end
mutual
theorem toRo_rel {w:World} {κ κc:Gh} {L L':AV→Value→Prop} (hI:∀ b,κ b=some .imm→κc b=some .imm) (hL:∀ v u,L v u→L' v u):∀ (v:AV) (K:Option Key) (u:Value),ImmKey κ κc K→relV w κ L K v u→relV w κc L' none (toRo v) u
 | .und,_,_,_,_=>trivial
 | .int ..,_,_,_,h=>h
 | .bool ..,_,_,_,h=>h
 | .tt,_,_,_,h=>h
 | .ff,_,_,_,h=>h
 | .str ..,_,_,_,h=>h
 | .nilp,_,_,_,h=>h
 | .nili,_,_,_,h=>h
 | .nils,_,_,_,h=>h
 | .ifc,_,_,_,h=>h
 | .own ..,_,_,_,h=>hL _ _ h
 | .sl ..,_,_,_,h=>hL _ _ h
 | .ptr ..,_,_,_,h=>hL _ _ h
 | .ro k rows,_,_,_,h=>by
  obtain ⟨A,cap,hu,hl,h⟩:=h
  refine ⟨A,cap,by rw[toRoRows_len];exact hu,by rw[toRoRows_len];exact hl,?_⟩
  rcases h with h | ⟨b,off,C,t,fr,hA,hb,hk,hr⟩
  ·exact .inl (by rw[h];rfl)
  ·exact .inr ⟨b,off,C,t,fr,hA,hb,hI b hk,toRoRs_rel hI rows none k 0 0 C off trivial hr⟩
 | .ow k rows,K,_,hK,h=>by
  obtain ⟨A,cap,hu,hl,h⟩:=h
  refine ⟨A,cap,by rw[toRoRows_len];exact hu,by rw[toRoRows_len];exact hl,?_⟩
  rcases h with h | ⟨b,off,C,t,fr,hA,hb,hf,hk,hs,hr⟩
  ·left
   cases rows with
   | nil=>rfl
   | cons=>simp at hl;omega
  ·exact .inr ⟨b,off,C,t,fr,hA,hb,hK.owns hk,toRoRs_rel hI rows K k 0 0 C off hK hr⟩
 | .rp row c,_,_,_,h=>by
  obtain ⟨b,off,C,t,fr,hA,hb,hk,hr⟩:=h
  exact ⟨b,off,C,t,fr,hA,hb,hI b hk,toRoRow_rel hI row none 0 0 0 0 C off trivial hr⟩
 | .pb row,K,_,hK,h=>by
  obtain ⟨b,off,C,t,fr,hA,hb,hf,hk,hr⟩:=h
  exact ⟨b,off,C,t,fr,hA,hb,hK.owns hk,toRoRow_rel hI row K 0 0 0 0 C off hK hr⟩
 | .agg cs,K,_,hK,h=>by
  obtain ⟨vs,hu,h⟩:=h
  exact ⟨vs,hu,toRoL_rel hI hL cs K 0 0 vs hK h⟩
 | .tup cs,K,_,hK,h=>by
  obtain ⟨vs,hu,h⟩:=h
  exact ⟨vs,hu,toRoL_rel hI hL cs K 0 0 vs hK h⟩
 | .fn f cs,_,_,_,h=>by
  obtain ⟨vs,hu,h⟩:=h
  exact ⟨vs,hu,toRoL_rel hI hL cs none 0 0 vs trivial h⟩
theorem toRoL_rel {w:World} {κ κc:Gh} {L L':AV→Value→Prop} (hI:∀ b,κ b=some .imm→κc b=some .imm) (hL:∀ v u,L v u→L' v u):∀ (cs:List AV) (K:Option Key) (c c':Nat) (vs:List Value),ImmKey κ κc K→relL w κ L K c cs vs→relL w κc L' none c' (toRoL cs) vs
 | [],_,_,_,_,_,h=>h
 | v::cs,K,c,c',_,hK,h=>by
  obtain ⟨u,us,hv,h1,h2⟩:=h
  exact ⟨u,us,hv,toRo_rel hI hL v _ u (hK.kid 0 c) h1,toRoL_rel hI hL cs K (c+1) (c'+1) us hK h2⟩
theorem toRoRow_rel {w:World} {κ κc:Gh} (hI:∀ b,κ b=some .imm→κc b=some .imm):∀ (cs:List AV) (K:Option Key) (r c r' c':Nat) (C:Array Value) (o:Nat),ImmKey κ κc K→relRow w κ K r c cs C o→relRow w κc none r' c' (toRoL cs) C o
 | [],_,_,_,_,_,_,_,_,_=>trivial
 | v::cs,K,r,c,r',c',C,o,hK,h=>by
  obtain ⟨⟨u,hu,h1⟩,h2⟩:=h
  exact ⟨⟨u,hu,toRo_rel hI (fun _ _ h=>h) v _ u (hK.kid r c) h1⟩,toRoRow_rel hI cs K r (c+1) r' (c'+1) C (o+1) hK h2⟩
theorem toRoRs_rel {w:World} {κ κc:Gh} (hI:∀ b,κ b=some .imm→κc b=some .imm):∀ (rows:List (List AV)) (K:Option Key) (k r r':Nat) (C:Array Value) (o:Nat),ImmKey κ κc K→relRs w κ K k r rows C o→relRs w κc none k r' (toRoRows rows) C o
 | [],_,_,_,_,_,_,_,_=>trivial
 | row::rows,K,k,r,r',C,o,hK,h=>by
  obtain ⟨h0,h1,h2⟩:=h
  exact ⟨(toRoL_len row).trans h0,toRoRow_rel hI row K r 0 r' 0 C o hK h1,toRoRs_rel hI rows K k (r+1) (r'+1) C (o+k) hK h2⟩
end
section
variable {P:Program} {w w':World} {κ κ' κc:Gh} {m m':Nat→Addr} {n n':Nat} {s:Slots} {h h':Heap} {a:Act} {L L':AV→Value→Prop} {tt:TypeId→Option TI}
def cellRs (rs:List (List AV)) (i j:Nat):Option AV:=match rs[i]? with | some row=>row[j]? | none=>none
theorem cellRs_modify {rs:List (List AV)} {r c i j:Nat} {x v:AV} (hv:cellRs (rs.modify r (fun row=>row.set c x)) i j=some v):(i=r∧j=c∧v=x∧∃ v0,cellRs rs i j=some v0)∨(¬ (i=r∧j=c)∧cellRs rs i j=some v):=by
 unfold cellRs at hv⊢
 rw[List.getElem?_modify] at hv
 by_cases e:r=i
 ·subst e
  simp only[if_true,Option.map_eq_map] at hv
  cases hq:rs[r]? with
  | none=>rw[hq] at hv;cases hv
  | some row=>
   rw[hq] at hv
   simp only[Option.map_some] at hv
   by_cases e2:c=j
   ·subst e2
    left
    have hlt:c < row.length:=by
     have:=(List.getElem?_eq_some_iff.1 hv).1
     simpa using this
    rw[List.getElem?_set_self hlt] at hv
    injection hv with hv
    exact ⟨rfl,rfl,hv.symm,row[c],List.getElem?_eq_getElem hlt⟩
   ·right
    rw[List.getElem?_set_ne e2] at hv
    exact ⟨fun e3=>e2 e3.2.symm,hv⟩
 ·right
  refine ⟨fun e3=>e e3.1.symm,?_⟩
  simp only[if_neg e,Option.map_eq_map] at hv
  cases hq:rs[i]? with
  | none=>rw[hq] at hv;cases hv
  | some row=>rw[hq] at hv;simpa using hv
theorem modify_lens {rs:List (List AV)} {r c:Nat} {x:AV}:(rs.modify r (fun row=>row.set c x)).map List.length=rs.map List.length:=by
 apply List.ext_getElem?
 intro i
 rw[List.getElem?_map,List.getElem?_map,List.getElem?_modify]
 by_cases e:r=i
 ·simp only[if_pos e];cases rs[i]?<;>simp
 ·simp only[if_neg e];cases rs[i]?<;>simp
def Sub (h' h:Heap):Prop:=∀ i,h' i=none∨h' i=h i
theorem Sub.refl (h:Heap):Sub h h:=fun i=> .inr rfl
theorem Sub.trans {h1 h2 h3:Heap} (a:Sub h1 h2) (b:Sub h2 h3):Sub h1 h3:=fun i=>by
 rcases a i with e | e
 ·exact .inl e
 ·rcases b i with e2 | e2
  ·exact .inl (by rw[e,e2])
  ·exact .inr (by rw[e,e2])
theorem sub_upd (h:Heap) (i:Nat):Sub (upd h i none) h:=fun j=>by
 by_cases e:j=i
 ·subst e;exact .inl (upd_eq _ _ _)
 ·exact .inr (upd_ne _ _ e)
theorem Sub.some {h1 h2:Heap} (a:Sub h1 h2) {i:Nat} {b:Blk} (hb:h1 i=some b):h2 i=some b:=by
 rcases a i with e | e
 ·rw[e] at hb;cases hb
 ·rw[←e];exact hb
def RoCells (w:World) (κ κc:Gh) (L:AV→Value→Prop) (pid:Nat) (holes:List Hole) (rs rs':List (List AV)):Prop:=
 ∀ i j v,cellRs rs' i j=some v→∃ v0,cellRs rs i j=some v0∧∀ u,relCell w κ L pid holes i j v0 u→relV w κc noL none (toRo v) u
theorem toRoRows_rel {pid k:Nat} {holes:List Hole} {rs rs':List (List AV)} {C:Array Value} {off:Nat} (hR:RoCells w κ κc L pid holes rs rs') (hl:rs'.map List.length=rs.map List.length) (hr:relHRs w κ L pid holes k 0 rs C off):relRs w κc none k 0 (toRoRows rs') C off:=by
 have getRo:∀ {l:List (List AV)} {i:Nat} {row:List AV},(toRoRows l)[i]?=some row→∃ row0,l[i]?=some row0∧row=toRoL row0:=by
  intro l
  induction l with
  | nil=>intro i row h;simp[toRoRows] at h
  | cons x l ih=>
   intro i row h
   cases i with
   | zero=>simp[toRoRows] at h;exact ⟨x,rfl,h.symm⟩
   | succ i=>exact ih (by simpa [toRoRows] using h)
 have getL:∀ {l:List AV} {i:Nat} {v:AV},(toRoL l)[i]?=some v→∃ v0,l[i]?=some v0∧v=toRo v0:=by
  intro l
  induction l with
  | nil=>intro i row h;simp[toRoL] at h
  | cons x l ih=>
   intro i row h
   cases i with
   | zero=>simp[toRoL] at h;exact ⟨x,rfl,h.symm⟩
   | succ i=>exact ih (by simpa [toRoL] using h)
 have row_of:∀ {i:Nat} {row:List AV},rs'[i]?=some row→∃ row0,rs[i]?=some row0∧row.length=row0.length:=fun {i row} hi=>by
  have h1:(rs'.map List.length)[i]?=some row.length:=by rw[List.getElem?_map,hi];rfl
  rw[hl,List.getElem?_map] at h1
  cases hq:rs[i]? with
  | none=>rw[hq] at h1;cases h1
  | some row0=>rw[hq] at h1;injection h1 with h1;exact ⟨row0,rfl,h1.symm⟩
 refine relRs_mk fun i row hi=>?_
 obtain ⟨row1,hrow1,rfl⟩:=getRo hi
 obtain ⟨row0,hrow0,hlen⟩:=row_of hrow1
 obtain ⟨g1,g2⟩:=relHRs_get hr hrow0
 refine ⟨by rw[toRoL_len,hlen];exact g1,relRow_mk fun j v hv=>?_⟩
 obtain ⟨v1,hv1,rfl⟩:=getL hv
 obtain ⟨v0,hv0,hrel⟩:=hR i j v1 (by unfold cellRs;rw[hrow1];exact hv1)
 have hv0':row0[j]?=some v0:=by unfold cellRs at hv0;rw[hrow0] at hv0;exact hv0
 obtain ⟨u,hu,hc⟩:=relHRow_get g2 hv0'
 rw[Nat.zero_add,Nat.zero_add] at hc
 exact ⟨u,hu,by simpa [kid] using hrel u hc⟩
theorem len_of_map {rs rs':List (List AV)} (hl:rs'.map List.length=rs.map List.length):rs'.length=rs.length:=by
 have:=congrArg List.length hl
 simpa using this
theorem own_ro (R:Rel w κ m n s h a) {id k:Nat} {rs2 rs2':List (List AV)} {hs2:List Hole} (hb:h id=some (.rows k rs2 hs2)) (hl:rs2'.map List.length=rs2.map List.length) (hk:∀ b p,κ b=some (.key (id,p))→κc b=some .imm) (hR:RoCells w κ κc (liveV w κ m n h) id hs2 rs2 rs2') {u:Value}
  (hu:liveV w κ m n h (.own id) u):relV w κc noL none (.ro k (toRoRows rs2')) u:=by
 obtain ⟨A,cap,hx,hcap,hr⟩:=own_slice (show relV w κ (liveV w κ m n h) none (.own id) u from hu) hb
 have hlen:=len_of_map hl
 refine ⟨A,cap,by rw[toRoRows_len,hlen];exact hx,by rw[toRoRows_len,hlen];exact hcap,?_⟩
 by_cases h0:rs2=[]
 ·left
  have:rs2'=[]:=List.eq_nil_of_length_eq_zero (by rw[hlen,h0];rfl)
  rw[this];rfl
 ·have hp:0 < rs2.length:=List.length_pos_iff.2 h0
  right
  rcases hr with e | ⟨hA,hB⟩
  ·omega
  ·rcases (R.blk id _ hb).2 with e | ⟨hsp,C,t,fr,hw,hfr,hκ,hrr⟩
   ·exact absurd e h0
   ·exact ⟨(m id).block,(m id).off,C,t,fr,by rw[hA,←own_addr hB],hw,hk _ _ hκ,toRoRows_rel hR hl hrr⟩
theorem closeHoles_ro (R:Rel w κ m n s h a) (take:Bool):∀ (fuel:Nat) (h1:Heap) (vis:List Nat) (rs:List (List AV)) (holes:List Hole) (pid:Nat) (K:List (List AV)→Heap→List Nat→Prop),Sub h1 h→closeHoles fuel take h1 vis rs holes K→
  ∃ rs' h2 vis' ids,K rs' h2 vis'∧Sub h2 h1∧(take=false→h2=h1∧∀ i∈ids,i∈vis')∧(∀ i∈vis,i∈vis')∧(take=true→vis'=vis∧∀ i∈ids,h2 i=none)∧(∀ i∈ids,h1 i≠none)∧rs'.map List.length=rs.map List.length∧
   ∀ κc:Gh,(∀ b,κ b=some .imm→κc b=some .imm)→(∀ i∈pid::ids,∀ b p,κ b=some (.key (i,p))→κc b=some .imm)→RoCells w κ κc (liveV w κ m n h) pid holes rs rs'
 | 0,h1,vis,rs,holes,pid,K,hs,hk=>(show False from hk).elim
 | fuel+1,h1,vis,rs,[],pid,K,hs,hk=>by
  refine ⟨rs,h1,vis,[],hk,Sub.refl _,fun _=>⟨rfl,fun i hi=>by simp at hi⟩,fun i hi=>hi,fun _=>⟨rfl,fun i hi=>by simp at hi⟩,fun i hi=>by simp at hi,rfl,fun κc hI hK i j v hv=>⟨v,hv,fun u hu=>?_⟩⟩
  have hu:relV w κ noL (some (pid,[(i,j)])) v u:=hu
  exact toRo_rel hI (fun _ _ h=>h) v (some (pid,[(i,j)])) u (fun q b hb=>hK pid (List.mem_cons_self ..) b _ hb) hu
 | fuel+1,h1,vis,rs,⟨r,c,id⟩::holes,pid,K,hs,hk=>by
  simp only[closeHoles] at hk
  obtain ⟨rs1,h2,vis1,ids1,hk,a1,a2,a3,a4,a5,a6,a7⟩:=closeHoles_ro R take fuel h1 vis rs holes pid _ hs hk
  split at hk
  ·rename_i k rs2 hs2 hid
   have hid0:h id=some (.rows k rs2 hs2):=(a1.trans hs).some hid
   have hsub0:Sub (bif take then upd h2 id none else h2) h2:=by
    cases take with
    | false=>exact Sub.refl _
    | true=>exact sub_upd _ _
   obtain ⟨rs2',h3,vis2,ids2,hk,b1,b2,b3,b4,b5,b6,b7⟩:=closeHoles_ro R take fuel _ vis1 rs2 hs2 id _ (hsub0.trans (a1.trans hs)) hk
   refine ⟨_,_,_,ids1++id::ids2,hk,(b1.trans hsub0).trans a1,fun ht=>?_,fun i hi=>?_,fun ht=>?_,fun i hi=>?_,?_,fun κc hI hK=>?_⟩
   ·subst ht
    refine ⟨by rw[(b2 rfl).1];exact (a2 rfl).1,fun i hi=>?_⟩
    simp only[cond_false]
    rcases List.mem_append.1 hi with hi | hi
    ·exact List.mem_cons_of_mem _ (b3 i ((a2 rfl).2 i hi))
    ·rcases List.mem_cons.1 hi with e | hi
     ·rw[e];exact List.mem_cons_self ..
     ·exact List.mem_cons_of_mem _ ((b2 rfl).2 i hi)
   ·cases take with
    | true=>exact b3 i (a3 i hi)
    | false=>exact List.mem_cons_of_mem _ (b3 i (a3 i hi))
   ·subst ht
    simp only[cond_true]
    refine ⟨(b4 rfl).1.trans (a4 rfl).1,fun i hi=>?_⟩
    rcases List.mem_append.1 hi with hi | hi
    ·rcases (b1.trans hsub0) i with e2 | e2
     ·exact e2
     ·rw[e2];exact (a4 rfl).2 i hi
    ·rcases List.mem_cons.1 hi with e2 | hi
     ·rw[e2]
      rcases b1 id with e3 | e3
      ·exact e3
      ·rw[e3];exact upd_eq _ _ _
     ·exact (b4 rfl).2 i hi
   ·rcases List.mem_append.1 hi with hi | hi
    ·exact a5 i hi
    ·rcases List.mem_cons.1 hi with e | hi
     ·subst e;rw[a1.some hid];simp
     ·intro e
      rcases (hsub0.trans a1) i with e2 | e2
      ·exact b5 i hi e2
      ·exact b5 i hi (by rw[e2];exact e)
   ·rw[modify_lens,a6]
   ·have A:=a7 κc hI (fun i hi=>hK i (by
     rcases List.mem_cons.1 hi with e | hi
     ·rw[e];exact List.mem_cons_self ..
     ·exact List.mem_cons_of_mem _ (List.mem_append_left _ hi)))
    have B:=b7 κc hI (fun i hi=>hK i (List.mem_cons_of_mem _ (List.mem_append_right _ hi)))
    intro i j v hv
    rcases cellRs_modify hv with ⟨rfl,rfl,rfl,v1,hv1⟩ | ⟨hne,hv1⟩
    ·obtain ⟨v0,hv0,_⟩:=A i j v1 hv1
     refine ⟨v0,hv0,fun u hu=>?_⟩
     unfold relCell at hu
     rw[findHole_cons,if_pos ⟨rfl,rfl⟩] at hu
     exact own_ro R hid0 b6 (fun b p hb=>hK id (List.mem_cons_of_mem _ (List.mem_append_right _ (List.mem_cons_self ..))) b p hb) B hu
    ·obtain ⟨v0,hv0,hr⟩:=A i j v hv1
     refine ⟨v0,hv0,fun u hu=>hr u ?_⟩
     unfold relCell at hu⊢
     rw[findHole_cons,if_neg (fun e=>hne ⟨e.1.symm,e.2.symm⟩)] at hu
     exact hu
  ·refine ⟨_,_,_,ids1,hk,a1,a2,a3,a4,a5,by rw[modify_lens,a6],fun κc hI hK=>?_⟩
   have A:=a7 κc hI hK
   intro i j v hv
   rcases cellRs_modify hv with ⟨rfl,rfl,rfl,v1,hv1⟩ | ⟨hne,hv1⟩
   ·obtain ⟨v0,hv0,_⟩:=A i j v1 hv1
    refine ⟨v0,hv0,fun u hu=>?_⟩
    unfold relCell at hu
    rw[findHole_cons,if_pos ⟨rfl,rfl⟩] at hu
    obtain ⟨_,⟨A,l,c,e⟩,_⟩:=hu
    rw[e];rfl
   ·obtain ⟨v0,hv0,hr⟩:=A i j v hv1
    refine ⟨v0,hv0,fun u hu=>hr u ?_⟩
    unfold relCell at hu⊢
    rw[findHole_cons,if_neg (fun e=>hne ⟨e.1.symm,e.2.symm⟩)] at hu
    exact hu
  ·exact hk.elim
def MvCells (w:World) (κ κc:Gh) (L:AV→Value→Prop) (pid:Nat) (holes:List Hole) (rs:List (List AV)) (f:Nat×Nat→Key) (rs':List (List AV)):Prop:=
 ∀ i j v,cellRs rs' i j=some v→∃ v0,cellRs rs i j=some v0∧∀ u,relCell w κ L pid holes i j v0 u→relV w κc noL (some (f (i,j))) v u
theorem row_of {rs rs':List (List AV)} (hl:rs'.map List.length=rs.map List.length) {i:Nat} {row:List AV} (hi:rs'[i]?=some row):∃ row0,rs[i]?=some row0∧row.length=row0.length:=by
 have h1:(rs'.map List.length)[i]?=some row.length:=by rw[List.getElem?_map,hi];rfl
 rw[hl,List.getElem?_map] at h1
 cases hq:rs[i]? with
 | none=>rw[hq] at h1;cases h1
 | some row0=>rw[hq] at h1;injection h1 with h1;exact ⟨row0,rfl,h1.symm⟩
theorem mvRows_rel {pid k lo len:Nat} {holes:List Hole} {rs rs':List (List AV)} {C:Array Value} {off:Nat} {root:Key} {f:Nat×Nat→Key} (hf:∀ i j,f (lo+i,j)=(root.1,root.2++[(i,j)])) (hR:MvCells w κ κc L pid holes rs f rs') (hl:rs'.map List.length=rs.map List.length) (hr:relHRs w κ L pid holes k 0 rs C off):
  relRs w κc (some root) k 0 ((rs'.drop lo).take len) C (off+lo*k):=by
 refine relRs_mk fun i row hi=>?_
 obtain ⟨_,hi⟩:=sub_get hi
 obtain ⟨row0,hrow0,hlen⟩:=row_of hl hi
 obtain ⟨g1,g2⟩:=relHRs_get hr hrow0
 refine ⟨by rw[hlen];exact g1,relRow_mk fun j v hv=>?_⟩
 obtain ⟨v0,hv0,hrel⟩:=hR (lo+i) j v (by unfold cellRs;rw[hi];exact hv)
 have hv0':row0[j]?=some v0:=by unfold cellRs at hv0;rw[hrow0] at hv0;exact hv0
 obtain ⟨u,hu,hc⟩:=relHRow_get g2 hv0'
 rw[Nat.zero_add,Nat.zero_add] at hc
 refine ⟨u,by rw[show off+lo*k+i*k+j=off+(lo+i)*k+j by rw[Nat.add_mul];omega];exact hu,?_⟩
 have:=hrel u hc
 rw[hf] at this
 simpa [kid] using this
theorem own_mv (R:Rel w κ m n s h a) {id k:Nat} {rs2 rs2':List (List AV)} {hs2:List Hole} (hb:h id=some (.rows k rs2 hs2)) (hl:rs2'.map List.length=rs2.map List.length) {root:Key} (hk:∀ b,κ b=some (.key (id,[]))→κc b=some (.key root)) (hR:MvCells w κ κc (liveV w κ m n h) id hs2 rs2 (fun x=>(root.1,root.2++[x])) rs2') {u:Value}
  (hu:liveV w κ m n h (.own id) u):relV w κc noL (some root) (.ow k rs2') u:=by
 obtain ⟨A,cap,hx,hcap,hr⟩:=own_slice (show relV w κ (liveV w κ m n h) none (.own id) u from hu) hb
 have hlen:=len_of_map hl
 refine ⟨A,cap,by rw[hlen];exact hx,by rw[hlen];exact hcap,hr.imp (fun e=>e) fun ⟨hA,hB⟩=>?_⟩
 have hBm:=own_addr hB
 obtain ⟨hsp,C,t,fr,hw,hfr,hκ,hsz⟩:=hB
 refine ⟨(m id).block,(m id).off,C,t,fr,by rw[hA,←hBm],hw,hfr,hk _ hκ,hsz,?_⟩
 rcases (R.blk id _ hb).2 with e | ⟨_,C',t',fr',hw',_,_,hrr⟩
 ·have:rs2'=[]:=List.eq_nil_of_length_eq_zero (by rw[hlen,e];rfl)
  rw[this];trivial
 ·rw[hw] at hw';cases hw'
  have:=mvRows_rel (lo:=0) (len:=rs2'.length) (root:=root) (by intro i j;simp) hR hl hrr
  simpa using this
abbrev TL:=List (Nat×(List (Nat×Nat)→Key))
def Taken (κ κc:Gh) (T:TL):Prop:=∀ x∈T,∀ b p,κ b=some (.key (x.1,p))→κc b=some (.key (x.2 p))
theorem closeHoles_mv (R:Rel w κ m n s h a) (J:Nat):∀ (fuel:Nat) (h1:Heap) (vis:List Nat) (rs:List (List AV)) (holes:List Hole) (pid:Nat) (f:Nat×Nat→Key) (K:List (List AV)→Heap→List Nat→Prop),(∀ x,(f x).1=J)→Sub h1 h→closeHoles fuel true h1 vis rs holes K→
  ∃ rs' h2,∃ T:TL,K rs' h2 vis∧Sub h2 h1∧(∀ x∈T,h1 x.1≠none∧h2 x.1=none∧∀ p,(x.2 p).1=J)∧(T.map Prod.fst).Nodup∧rs'.map List.length=rs.map List.length∧
   ∀ κc:Gh,(∀ b,κ b=some .imm→κc b=some .imm)→Taken κ κc T→(∀ i j q b,κ b=some (.key (pid,(i,j)::q))→κc b=some (.key ((f (i,j)).1,(f (i,j)).2++q)))→MvCells w κ κc (liveV w κ m n h) pid holes rs f rs'
 | 0,h1,vis,rs,holes,pid,f,K,hf,hs,hk=>(show False from hk).elim
 | fuel+1,h1,vis,rs,[],pid,f,K,hf,hs,hk=>by
  refine ⟨rs,h1,[],hk,Sub.refl _,fun x hx=>by simp at hx,by simp,rfl,fun κc hI hT hK i j v hv=>⟨v,hv,fun u hu=>?_⟩⟩
  have hu:relV w κ noL (some (pid,[(i,j)])) v u:=hu
  exact relV_move (fun b hb=>⟨hI b hb,rfl⟩) (fun _ _ h=>h) v (some (pid,[(i,j)])) (some (f (i,j))) u ⟨_,rfl,fun q b hb=>⟨hK i j q b hb,rfl⟩⟩ hu
 | fuel+1,h1,vis,rs,⟨r,c,id⟩::holes,pid,f,K,hf,hs,hk=>by
  simp only[closeHoles] at hk
  obtain ⟨rs1,h2,T1,hk,a1,a2,a3,a4,a5⟩:=closeHoles_mv R J fuel h1 vis rs holes pid f _ hf hs hk
  split at hk
  ·rename_i k rs2 hs2 hid
   simp only[cond_true] at hk
   have hid0:h id=some (.rows k rs2 hs2):=(a1.trans hs).some hid
   have hsub0:Sub (upd h2 id none) h2:=sub_upd _ _
   obtain ⟨rs2',h3,T2,hk,b1,b2,b3,b4,b5⟩:=closeHoles_mv R J fuel _ vis rs2 hs2 id (fun x=>((f (r,c)).1,(f (r,c)).2++[x])) _ (fun x=>hf _) (hsub0.trans (a1.trans hs)) hk
   refine ⟨_,_,T1++(id,fun p=>((f (r,c)).1,(f (r,c)).2++p))::T2,hk,(b1.trans hsub0).trans a1,fun x hx=>?_,?_,?_,fun κc hI hT hK=>?_⟩
   ·rcases List.mem_append.1 hx with hx | hx
    ·obtain ⟨c1,c2,c3⟩:=a2 x hx
     refine ⟨c1,?_,c3⟩
     rcases (b1.trans hsub0) x.1 with e | e
     ·exact e
     ·rw[e];exact c2
    ·rcases List.mem_cons.1 hx with e | hx
     ·subst e
      refine ⟨by rw[a1.some hid];simp,?_,fun p=>hf _⟩
      rcases b1 id with e3 | e3
      ·exact e3
      ·rw[e3];exact upd_eq _ _ _
     ·obtain ⟨c1,c2,c3⟩:=b2 x hx
      refine ⟨fun e=>?_,c2,c3⟩
      rcases (hsub0.trans a1) x.1 with e2 | e2
      ·exact c1 e2
      ·exact c1 (by rw[e2];exact e)
   ·rw[List.map_append,List.map_cons,List.nodup_append]
    refine ⟨a3,?_,?_⟩
    ·rw[List.nodup_cons]
     refine ⟨fun hm=>?_,b3⟩
     obtain ⟨x,hx,e⟩:=List.mem_map.1 hm
     exact (b2 x hx).1 (by rw[e];exact upd_eq _ _ _)
    ·intro i hi j hj e
     subst e
     obtain ⟨x,hx,e1⟩:=List.mem_map.1 hi
     have hx2:=(a2 x hx).2.1
     rcases List.mem_cons.1 hj with e2 | hj
     ·have e2:i=id:=e2
      rw[e1,e2,hid] at hx2;cases hx2
     ·obtain ⟨y,hy,e3⟩:=List.mem_map.1 hj
      have hy2:=(b2 y hy).1
      rw[e3,←e1] at hy2
      rcases hsub0 x.1 with e4 | e4
      ·exact hy2 e4
      ·exact hy2 (by rw[e4];exact hx2)
   ·rw[modify_lens,a4]
   ·have A:=a5 κc hI (fun x hx=>hT x (List.mem_append_left _ hx)) hK
    have hTid:∀ b p,κ b=some (.key (id,p))→κc b=some (.key ((f (r,c)).1,(f (r,c)).2++p)):=hT (id,fun p=>((f (r,c)).1,(f (r,c)).2++p)) (List.mem_append_right _ (List.mem_cons_self ..))
    have B:=b5 κc hI (fun x hx=>hT x (List.mem_append_right _ (List.mem_cons_of_mem _ hx))) (fun i j q b hb=>by
     have:=hTid b _ hb
     simpa [List.append_assoc] using this)
    intro i j v hv
    rcases cellRs_modify hv with ⟨rfl,rfl,rfl,v1,hv1⟩ | ⟨hne,hv1⟩
    ·obtain ⟨v0,hv0,_⟩:=A i j v1 hv1
     refine ⟨v0,hv0,fun u hu=>?_⟩
     unfold relCell at hu
     rw[findHole_cons,if_pos ⟨rfl,rfl⟩] at hu
     exact own_mv R hid0 b4 (root:=f (i,j)) (fun b hb=>by simpa using hTid b [] hb) B hu
    ·obtain ⟨v0,hv0,hr⟩:=A i j v hv1
     refine ⟨v0,hv0,fun u hu=>hr u ?_⟩
     unfold relCell at hu⊢
     rw[findHole_cons,if_neg (fun e=>hne ⟨e.1.symm,e.2.symm⟩)] at hu
     exact hu
  ·refine ⟨_,_,T1,hk,a1,a2,a3,by rw[modify_lens,a4],fun κc hI hT hK=>?_⟩
   have A:=a5 κc hI hT hK
   intro i j v hv
   rcases cellRs_modify hv with ⟨rfl,rfl,rfl,v1,hv1⟩ | ⟨hne,hv1⟩
   ·obtain ⟨v0,hv0,_⟩:=A i j v1 hv1
    refine ⟨v0,hv0,fun u hu=>?_⟩
    unfold relCell at hu
    rw[findHole_cons,if_pos ⟨rfl,rfl⟩] at hu
    obtain ⟨_,⟨A,l,c,e⟩,_⟩:=hu
    rw[e];rfl
   ·obtain ⟨v0,hv0,hr⟩:=A i j v hv1
    refine ⟨v0,hv0,fun u hu=>hr u ?_⟩
    unfold relCell at hu⊢
    rw[findHole_cons,if_neg (fun e=>hne ⟨e.1.symm,e.2.symm⟩)] at hu
    exact hu
  ·exact hk.elim
end
end Go.Proofs.VI
end
section
set_option linter.unusedVariables false
set_option linter.unusedSimpArgs false
namespace Go.Proofs.VI
open Go
section
variable {P:Program} {w w':World} {κ κ' κc:Gh} {m m':Nat→Addr} {n n':Nat} {s:Slots} {h h':Heap} {a:Act} {L L':AV→Value→Prop} {tt:TypeId→Option TI}
structure Cl (h1 h2:Heap) (vis vis':List Nat) (N:Nat) (T:TL) (F V:List Nat):Prop where
 sub:Sub h2 h1
 vis:∀ i∈vis,i∈vis'
 lent:∀ i∈V,i∈vis'
 tk:∀ x∈T,h1 x.1≠none∧h2 x.1=none∧∀ p,(x.2 p).1 < N
 fz:∀ i∈F,h1 i≠none∧h2 i=none
 nodup:(T.map Prod.fst).Nodup
 apart:∀ i∈F,i∉T.map Prod.fst
structure Spec (κ κc:Gh) (T:TL) (F V:List Nat):Prop where
 imm:∀ b,κ b=some .imm→κc b=some .imm
 tk:Taken κ κc T
 fz:∀ i∈F,∀ b p,κ b=some (.key (i,p))→κc b=some .imm
 lent:∀ i∈V,∀ b p,κ b=some (.key (i,p))→κc b=some .imm
theorem Cl.refl (h1:Heap) (vis:List Nat) (N:Nat):Cl h1 h1 vis vis N [] [] []:=
 ⟨Sub.refl _,fun _ h=>h,fun _ h=>by simp at h,fun _ h=>by simp at h,fun _ h=>by simp at h,by simp,fun _ h=>by simp at h⟩
theorem Cl.trans {h1 h2 h3:Heap} {v1 v2 v3:List Nat} {N:Nat} {T1 T2:TL} {F1 F2 V1 V2:List Nat} (x:Cl h1 h2 v1 v2 N T1 F1 V1) (y:Cl h2 h3 v2 v3 N T2 F2 V2):Cl h1 h3 v1 v3 N (T1++T2) (F1++F2) (V1++V2) where
 sub:=y.sub.trans x.sub
 vis i hi:=y.vis i (x.vis i hi)
 lent i hi:=by
  rcases List.mem_append.1 hi with hi | hi
  ·exact y.vis i (x.lent i hi)
  ·exact y.lent i hi
 tk z hz:=by
  rcases List.mem_append.1 hz with hz | hz
  ·obtain ⟨c1,c2,c3⟩:=x.tk z hz
   refine ⟨c1,?_,c3⟩
   rcases y.sub z.1 with e | e
   ·exact e
   ·rw[e];exact c2
  ·obtain ⟨c1,c2,c3⟩:=y.tk z hz
   refine ⟨fun e=>?_,c2,c3⟩
   rcases x.sub z.1 with e2 | e2
   ·exact c1 e2
   ·exact c1 (by rw[e2];exact e)
 fz i hi:=by
  rcases List.mem_append.1 hi with hi | hi
  ·obtain ⟨c1,c2⟩:=x.fz i hi
   refine ⟨c1,?_⟩
   rcases y.sub i with e | e
   ·exact e
   ·rw[e];exact c2
  ·obtain ⟨c1,c2⟩:=y.fz i hi
   refine ⟨fun e=>?_,c2⟩
   rcases x.sub i with e2 | e2
   ·exact c1 e2
   ·exact c1 (by rw[e2];exact e)
 nodup:=by
  rw[List.map_append,List.nodup_append]
  refine ⟨x.nodup,y.nodup,fun i hi j hj e=>?_⟩
  subst e
  obtain ⟨a,ha,rfl⟩:=List.mem_map.1 hi
  obtain ⟨b,hb,e⟩:=List.mem_map.1 hj
  exact (y.tk b hb).1 (by rw[e];exact (x.tk a ha).2.1)
 apart i hi hm:=by
  rw[List.map_append] at hm
  rcases List.mem_append.1 hi with hi | hi
  ·rcases List.mem_append.1 hm with hm | hm
   ·exact x.apart i hi hm
   ·obtain ⟨b,hb,e⟩:=List.mem_map.1 hm
    exact (y.tk b hb).1 (by rw[e];exact (x.fz i hi).2)
  ·rcases List.mem_append.1 hm with hm | hm
   ·obtain ⟨b,hb,e⟩:=List.mem_map.1 hm
    exact (y.fz i hi).1 (by rw[←e];exact (x.tk b hb).2.1)
   ·exact y.apart i hi hm
theorem Spec.left {T1 T2:TL} {F1 F2 V1 V2:List Nat} (x:Spec κ κc (T1++T2) (F1++F2) (V1++V2)):Spec κ κc T1 F1 V1:=
 ⟨x.imm,fun z hz=>x.tk z (List.mem_append_left _ hz),fun i hi=>x.fz i (List.mem_append_left _ hi),fun i hi=>x.lent i (List.mem_append_left _ hi)⟩
theorem Spec.right {T1 T2:TL} {F1 F2 V1 V2:List Nat} (x:Spec κ κc (T1++T2) (F1++F2) (V1++V2)):Spec κ κc T2 F2 V2:=
 ⟨x.imm,fun z hz=>x.tk z (List.mem_append_right _ hz),fun i hi=>x.fz i (List.mem_append_right _ hi),fun i hi=>x.lent i (List.mem_append_right _ hi)⟩
def CloseOk0 (w:World) (κ:Gh) (h1:Heap) (vis:List Nat) (N:Nat) (K:AV→Heap→List Nat→Prop) (KO:Option Key) (u:Value):Prop:=
 ∃ v' h2 vis',∃ T:TL,∃ F V:List Nat,K v' h2 vis'∧Cl h1 h2 vis vis' N T F V∧∀ κc,Spec κ κc T F V→relV w κc noL KO v' u
theorem toRoRows_sub (rs:List (List AV)) (lo len:Nat):toRoRows ((rs.drop lo).take len)=((toRoRows rs).drop lo).take len:=by
 have hm:∀ l:List (List AV),toRoRows l=l.map toRoL:=fun l=>by
  induction l with
  | nil=>rfl
  | cons x l ih=>simp[toRoRows,ih]
 rw[hm,hm,List.map_take,List.map_drop]
theorem relRs_take {K:Option Key} {k:Nat} {rows:List (List AV)} {C:Array Value} {off lo len:Nat} (hK:K=none) (hr:relRs w κ K k 0 rows C off):relRs w κ K k 0 ((rows.drop lo).take len) C (off+lo*k):=by
 have:=relRs_sub (l:=lo) (u:=lo+len) hK hr
 rwa [show lo+len - lo=len by omega] at this
theorem sl_ro (R:Rel w κ m n s h a) {id k off len:Nat} {rs2 rs2':List (List AV)} {hs2:List Hole} (hb:h id=some (.rows k rs2 hs2)) (hl:rs2'.map List.length=rs2.map List.length) (hk:∀ b p,κ b=some (.key (id,p))→κc b=some .imm) (hR:RoCells w κ κc (liveV w κ m n h) id hs2 rs2 rs2') {u:Value}
  (hu:relV w κ (liveV w κ m n h) none (.sl id off len) u):relV w κc noL none (.ro k (toRoRows ((rs2'.drop off).take len))) u:=by
 obtain ⟨hle,A,cap,hx,hcap,hr⟩:=sl_slice hu hb
 have hlen:=len_of_map hl
 have hln:(toRoRows ((rs2'.drop off).take len)).length=len:=by rw[toRoRows_len];simp;omega
 refine ⟨A,cap,by rw[hln];exact hx,by rw[hln];exact hcap,?_⟩
 by_cases h0:len=0
 ·left;subst h0;simp[toRoRows]
 ·right
  rcases hr with e | ⟨hA,hB⟩
  ·omega
  ·rcases (R.blk id _ hb).2 with e | ⟨hsp,C,t,fr,hw,hfr,hκ,hrr⟩
   ·subst e;simp at hle;omega
   ·refine ⟨(m id).block,(m id).off+off*k,C,t,fr,hA,hw,hk _ _ hκ,?_⟩
    rw[toRoRows_sub]
    exact relRs_take rfl (toRoRows_rel hR hl hrr)
theorem clRo {h1:Heap} {vis vis' ids:List Nat} {id N:Nat} (a3:∀ i∈vis,i∈vis') (a2:∀ i∈ids,i∈vis'):Cl h1 h1 vis (id::vis') N [] [] (id::ids):=
 ⟨Sub.refl _,fun i hi=>List.mem_cons_of_mem _ (a3 i hi),fun i hi=>by
  rcases List.mem_cons.1 hi with e | hi
  ·rw[e];exact List.mem_cons_self ..
  ·exact List.mem_cons_of_mem _ (a2 i hi),fun _ h=>by simp at h,fun _ h=>by simp at h,by simp,fun _ h=>by simp at h⟩
theorem clFz {h1 h2:Heap} {vis ids:List Nat} {id N:Nat} {B:Blk} (hid:h1 id=some B) (a1:Sub h2 (upd h1 id none)) (a4:∀ i∈ids,h2 i=none) (a5:∀ i∈ids,upd h1 id none i≠none):Cl h1 h2 vis vis N [] (id::ids) []:=by
 refine ⟨a1.trans (sub_upd _ _),fun i hi=>hi,fun _ h=>by simp at h,fun _ h=>by simp at h,fun i hi=>?_,by simp,fun _ h=>by simp⟩
 rcases List.mem_cons.1 hi with e | hi
 ·subst e
  refine ⟨by rw[hid];simp,?_⟩
  rcases a1 i with e | e
  ·exact e
  ·rw[e];exact upd_eq _ _ _
 ·refine ⟨fun e=>a5 i hi ?_,a4 i hi⟩
  rcases sub_upd h1 id i with e2 | e2
  ·exact e2
  ·rw[e2];exact e
theorem clMv {h1 h2:Heap} {vis:List Nat} {id N J:Nat} {B:Blk} {T:TL} {g:List (Nat×Nat)→Key} (hid:h1 id=some B) (hN:J < N) (hg:∀ p,(g p).1=J) (a1:Sub h2 (upd h1 id none)) (a2:∀ x∈T,upd h1 id none x.1≠none∧h2 x.1=none∧∀ p,(x.2 p).1=J) (a3:(T.map Prod.fst).Nodup):Cl h1 h2 vis vis N ((id,g)::T) [] []:=by
 refine ⟨a1.trans (sub_upd _ _),fun i hi=>hi,fun _ h=>by simp at h,fun x hx=>?_,fun _ h=>by simp at h,?_,fun _ h=>by simp at h⟩
 ·rcases List.mem_cons.1 hx with e | hx
  ·subst e
   refine ⟨by rw[hid];simp,?_,fun p=>by rw[hg];exact hN⟩
   rcases a1 id with e | e
   ·exact e
   ·rw[e];exact upd_eq _ _ _
  ·obtain ⟨c1,c2,c3⟩:=a2 x hx
   refine ⟨fun e=>c1 ?_,c2,fun p=>by rw[c3];exact hN⟩
   rcases sub_upd h1 id x.1 with e2 | e2
   ·exact e2
   ·rw[e2];exact e
 ·rw[List.map_cons,List.nodup_cons]
  refine ⟨fun hm=>?_,a3⟩
  obtain ⟨x,hx,e⟩:=List.mem_map.1 hm
  exact (a2 x hx).1 (by rw[e];exact upd_eq _ _ _)
def slKey (rk:Key) (off:Nat) (p:List (Nat×Nat)):Key:=match p with | []=>rk | (r,c)::q=>(rk.1,rk.2++(r - off,c)::q)
theorem slKey_fst (rk:Key) (off:Nat) (p:List (Nat×Nat)):(slKey rk off p).1=rk.1:=by
 cases p with
 | nil=>rfl
 | cons x q=>rfl
theorem closeC_sound0 (R:Rel w κ m n s h a) {h1:Heap} (hs:Sub h1 h) {fuel:Nat} {md:CMode} (hmd0:∀ k,md≠ .muts k) {vis:List Nat} {v:AV} {K:AV→Heap→List Nat→Prop} {rk:Key} {KO:Option Key} {N:Nat} (hN:rk.1 < N) (hKO:md= .ro∨KO=some rk) {u:Value} (hv:relV w κ (liveV w κ m n h) none v u) (hk:closeC fuel md h1 vis v K):CloseOk0 w κ h1 vis N K KO u:=by
 have same:∀ v',K v' h1 vis→(∀ κc,(∀ b,κ b=some .imm→κc b=some .imm)→relV w κc noL KO v' u)→CloseOk0 w κ h1 vis N K KO u:=fun v' hk hr=>
  ⟨v',h1,vis,[],[],[],hk,Cl.refl _ _ _,fun κc S=>hr κc S.imm⟩
 cases v with
 | own id=>
  simp only[closeC] at hk
  split at hk
  ·rename_i k rs hs2 hid
   have hid0:=hs.some hid
   have mvcase:md≠ .ro→(closeHoles fuel true (upd h1 id none) vis rs hs2 fun rs h vis=>K (.ow k rs) h vis)→CloseOk0 w κ h1 vis N K KO u:=fun hmd hk=>by
    have hKO:=hKO.resolve_left hmd
    subst hKO
    obtain ⟨rs',h2,T,hk2,a1,a2,a3,a4,a5⟩:=closeHoles_mv R rk.1 fuel (upd h1 id none) vis rs hs2 id (fun x=>(rk.1,rk.2++[x])) _ (fun _=>rfl) ((sub_upd _ _).trans hs) hk
    refine ⟨_,_,_,(id,fun p=>(rk.1,rk.2++p))::T,[],[],hk2,⟨a1.trans (sub_upd _ _),fun i hi=>hi,fun _ h=>by simp at h,fun x hx=>?_,fun _ h=>by simp at h,?_,fun _ h=>by simp at h⟩,fun κc S=>?_⟩
    ·rcases List.mem_cons.1 hx with e | hx
     ·subst e
      refine ⟨by rw[hid];simp,?_,fun p=>hN⟩
      rcases a1 id with e | e
      ·exact e
      ·rw[e];exact upd_eq _ _ _
     ·obtain ⟨c1,c2,c3⟩:=a2 x hx
      refine ⟨fun e=>c1 ?_,c2,fun p=>by rw[c3];exact hN⟩
      rcases sub_upd h1 id x.1 with e2 | e2
      ·exact e2
      ·rw[e2];exact e
    ·rw[List.map_cons,List.nodup_cons]
     refine ⟨fun hm=>?_,a3⟩
     obtain ⟨x,hx,e⟩:=List.mem_map.1 hm
     exact (a2 x hx).1 (by rw[e];exact upd_eq _ _ _)
    ·have hTid:∀ b p,κ b=some (.key (id,p))→κc b=some (.key (rk.1,rk.2++p)):=S.tk (id,fun p=>(rk.1,rk.2++p)) (List.mem_cons_self ..)
     exact own_mv R hid0 a4 (root:=rk) (fun b hb=>by simpa using hTid b [] hb) (a5 κc S.imm (fun x hx=>S.tk x (List.mem_cons_of_mem _ hx)) (fun i j q b hb=>by
      have:=hTid b _ hb
      simpa [List.append_assoc] using this)) hv
   cases md with
   | ro=>
    simp only at hk
    obtain ⟨rs',h2,vis',ids,hk2,a1,a2,a3,a4,a5,a6,a7⟩:=closeHoles_ro R false fuel h1 vis rs hs2 id _ hs hk
    obtain ⟨e2,a2'⟩:=a2 rfl
    subst e2
    exact ⟨_,_,_,[],[],id::ids,hk2,⟨Sub.refl _,fun i hi=>List.mem_cons_of_mem _ (a3 i hi),fun i hi=>by
     rcases List.mem_cons.1 hi with e | hi
     ·rw[e];exact List.mem_cons_self ..
     ·exact List.mem_cons_of_mem _ (a2' i hi),fun _ h=>by simp at h,fun _ h=>by simp at h,by simp,fun _ h=>by simp at h⟩,fun κc S=>
      own_ro R hid0 a6 (fun b p hb=>S.lent id (List.mem_cons_self ..) b p hb) (a7 κc S.imm (fun i hi=>S.lent i hi)) hv⟩
   | frz=>
    simp only at hk
    obtain ⟨rs',h2,vis',ids,hk2,a1,a2,a3,a4,a5,a6,a7⟩:=closeHoles_ro R true fuel (upd h1 id none) vis rs hs2 id _ ((sub_upd _ _).trans hs) hk
    obtain ⟨e4,a4'⟩:=a4 rfl
    subst e4
    refine ⟨_,_,_,[],id::ids,[],hk2,⟨a1.trans (sub_upd _ _),a3,fun _ h=>by simp at h,fun _ h=>by simp at h,fun i hi=>?_,by simp,fun _ h=>by simp⟩,fun κc S=>
      own_ro R hid0 a6 (fun b p hb=>S.fz id (List.mem_cons_self ..) b p hb) (a7 κc S.imm (fun i hi=>S.fz i hi)) hv⟩
    rcases List.mem_cons.1 hi with e | hi
    ·subst e
     refine ⟨by rw[hid];simp,?_⟩
     rcases a1 i with e | e
     ·exact e
     ·rw[e];exact upd_eq _ _ _
    ·refine ⟨fun e=>a5 i hi ?_,a4' i hi⟩
     rcases sub_upd h1 id i with e2 | e2
     ·exact e2
     ·rw[e2];exact e
   | mv=>simp only at hk;exact mvcase (by simp) hk
   | no=>
    simp only at hk
    exact same _ hk fun κc hI=>by
     obtain ⟨_,⟨A,l,c,e⟩,_⟩:=(show liveV w κ m n h (.own id) u from hv)
     rw[e];rfl
   | muts k'=>exact absurd rfl (hmd0 k')
   | muta ks=>simp only at hk
   | «mut»=>simp only at hk
  ·exact hk.elim
 | sl id off len=>
  simp only[closeC] at hk
  split at hk
  ·rename_i k rs hs2 hid
   have hid0:=hs.some hid
   cases md with
   | no=>simp only at hk
   | ro=>
    simp only at hk
    obtain ⟨rs',h2,vis',ids,hk2,a1,a2,a3,a4,a5,a6,a7⟩:=closeHoles_ro R false fuel h1 vis rs hs2 id _ hs hk
    obtain ⟨e2,a2'⟩:=a2 rfl
    subst e2
    exact ⟨_,_,_,[],[],id::ids,hk2,clRo a3 a2',fun κc S=>
      sl_ro R hid0 a6 (fun b p hb=>S.lent id (List.mem_cons_self ..) b p hb) (a7 κc S.imm (fun i hi=>S.lent i hi)) hv⟩
   | frz=>
    simp only at hk
    obtain ⟨rs',h2,vis',ids,hk2,a1,a2,a3,a4,a5,a6,a7⟩:=closeHoles_ro R true fuel (upd h1 id none) vis rs hs2 id _ ((sub_upd _ _).trans hs) hk
    obtain ⟨e4,a4'⟩:=a4 rfl
    subst e4
    exact ⟨_,_,_,[],id::ids,[],hk2,clFz hid a1 a4' a5,fun κc S=>
      sl_ro R hid0 a6 (fun b p hb=>S.fz id (List.mem_cons_self ..) b p hb) (a7 κc S.imm (fun i hi=>S.fz i hi)) hv⟩
   | mv=>
    simp only at hk
    have hKO:=hKO.resolve_left (by simp)
    subst hKO
    obtain ⟨rs',h2,T,hk2,a1,a2,a3,a4,a5⟩:=closeHoles_mv R rk.1 fuel (upd h1 id none) vis rs hs2 id (fun x=>(rk.1,rk.2++[(x.1 - off,x.2)])) _ (fun _=>rfl) ((sub_upd _ _).trans hs) hk
    refine ⟨_,_,_,(id,slKey rk off)::T,[],[],hk2,clMv hid hN (fun p=>slKey_fst rk off p) a1 a2 a3,fun κc S=>?_⟩
    have hTid:∀ b p,κ b=some (.key (id,p))→κc b=some (.key (slKey rk off p)):=S.tk (id,slKey rk off) (List.mem_cons_self ..)
    have hcells:=a5 κc S.imm (fun x hx=>S.tk x (List.mem_cons_of_mem _ hx)) (fun i j q b hb=>by
      have:=hTid b _ hb
      simpa [slKey,List.append_assoc] using this)
    obtain ⟨hle,A,cap,hx,hcap,hr⟩:=sl_slice hv hid0
    have hlen:=len_of_map a4
    have hln:((rs'.drop off).take len).length=len:=by simp;omega
    refine ⟨A,cap,by rw[hln];exact hx,by rw[hln];exact hcap,hr.imp (fun e=>e) fun ⟨hA,hB⟩=>?_⟩
    obtain ⟨hsp,C,t,fr,hw,hfr,hκ,hsz⟩:=hB
    refine ⟨(m id).block,(m id).off+off*k,C,t,fr,hA,hw,hfr,by simpa [slKey,owns] using hTid _ _ hκ,by rw[Nat.add_mul] at hsz;omega,?_⟩
    rcases (R.blk id _ hid0).2 with e | ⟨_,C',t',fr',hw',_,_,hrr⟩
    ·have:rs'=[]:=List.eq_nil_of_length_eq_zero (by rw[hlen,e];rfl)
     rw[this];simp[relRs]
    ·rw[hw] at hw';cases hw'
     exact mvRows_rel (root:=rk) (by intro i j;simp) hcells a4 hrr
   | muts k'=>exact absurd rfl (hmd0 k')
   | muta ks=>simp only at hk
   | «mut»=>simp only at hk
  ·exact hk.elim
 | ptr id r c=>
  simp only[closeC] at hk
  split at hk
  ·rename_i row hs2 hid
   have hid0:=hs.some hid
   have hx:=ptr_addr hv hid0
   obtain ⟨_,hB⟩:=R.blk id _ hid0
   obtain ⟨h00,hsp,C,t,fr,hw,hfr,hκ,hrow⟩:=hB
   have hrr:relHRs w κ (liveV w κ m n h) id hs2 row.length 0 [row] C (m id).off:=⟨rfl,hrow,trivial⟩
   cases md with
   | no=>simp only at hk
   | ro=>
    simp only at hk
    obtain ⟨rs',h2,vis',ids,hk2,a1,a2,a3,a4,a5,a6,a7⟩:=closeHoles_ro R false fuel h1 vis [row] hs2 id _ hs hk
    obtain ⟨e2,a2'⟩:=a2 rfl
    subst e2
    split at hk2
    ·rename_i row'
     exact ⟨_,_,_,[],[],id::ids,hk2,clRo a3 a2',fun κc S=>
      ⟨(m id).block,(m id).off,C,t,fr,hx,hw,S.lent id (List.mem_cons_self ..) _ _ hκ,(toRoRows_rel (a7 κc S.imm (fun i hi=>S.lent i hi)) a6 hrr).2.1⟩⟩
    ·exact hk2.elim
   | frz=>simp only at hk
   | muts k'=>exact absurd rfl (hmd0 k')
   | muta ks=>simp only at hk
   | mv=>
    simp only at hk
    have hKO:=hKO.resolve_left (by simp)
    subst hKO
    split at hk
    ·obtain ⟨rs',h2,T,hk2,a1,a2,a3,a4,a5⟩:=closeHoles_mv R rk.1 fuel (upd h1 id none) vis [row] hs2 id (fun x=>(rk.1,rk.2++[x])) _ (fun _=>rfl) ((sub_upd _ _).trans hs) hk
     split at hk2
     ·rename_i row'
      refine ⟨_,_,_,(id,fun p=>(rk.1,rk.2++p))::T,[],[],hk2,clMv hid hN (fun p=>rfl) a1 a2 a3,fun κc S=>?_⟩
      have hTid:∀ b p,κ b=some (.key (id,p))→κc b=some (.key (rk.1,rk.2++p)):=S.tk (id,fun p=>(rk.1,rk.2++p)) (List.mem_cons_self ..)
      have hcells:=a5 κc S.imm (fun x hx=>S.tk x (List.mem_cons_of_mem _ hx)) (fun i j q b hb=>by
       have:=hTid b _ hb
       simpa [List.append_assoc] using this)
      have hrel:=mvRows_rel (lo:=0) (len:=1) (root:=rk) (by intro i j;simp) hcells a4 hrr
      simp only[List.drop_zero,List.take_succ_cons,List.take_zero,Nat.zero_mul,Nat.add_zero] at hrel
      refine ⟨(m id).block,(m id).off,C,t,fr,by simpa [cellOff] using hx,hw,hfr,by simpa [owns] using hTid _ _ hκ,hrel.2.1⟩
     ·exact hk2.elim
    ·exact hk.elim
   | «mut»=>
    simp only at hk
    have hKO:=hKO.resolve_left (by simp)
    subst hKO
    split at hk
    ·obtain ⟨rs',h2,T,hk2,a1,a2,a3,a4,a5⟩:=closeHoles_mv R rk.1 fuel (upd h1 id none) vis [row] hs2 id (fun x=>(rk.1,rk.2++[x])) _ (fun _=>rfl) ((sub_upd _ _).trans hs) hk
     split at hk2
     ·rename_i row'
      refine ⟨_,_,_,(id,fun p=>(rk.1,rk.2++p))::T,[],[],hk2,clMv hid hN (fun p=>rfl) a1 a2 a3,fun κc S=>?_⟩
      have hTid:∀ b p,κ b=some (.key (id,p))→κc b=some (.key (rk.1,rk.2++p)):=S.tk (id,fun p=>(rk.1,rk.2++p)) (List.mem_cons_self ..)
      have hcells:=a5 κc S.imm (fun x hx=>S.tk x (List.mem_cons_of_mem _ hx)) (fun i j q b hb=>by
       have:=hTid b _ hb
       simpa [List.append_assoc] using this)
      have hrel:=mvRows_rel (lo:=0) (len:=1) (root:=rk) (by intro i j;simp) hcells a4 hrr
      simp only[List.drop_zero,List.take_succ_cons,List.take_zero,Nat.zero_mul,Nat.add_zero] at hrel
      refine ⟨(m id).block,(m id).off,C,t,fr,by simpa [cellOff] using hx,hw,hfr,by simpa [owns] using hTid _ _ hκ,hrel.2.1⟩
     ·exact hk2.elim
    ·exact hk.elim
  ·rename_i k rs hid
   have hid0:=hs.some hid
   have hx:=ptr_addr hv hid0
   cases md with
   | no=>simp only at hk
   | ro=>
    simp only at hk
    obtain ⟨row,hrow,hk⟩:=hk
    refine ⟨_,_,_,[],[],[id],hk,clRo (ids:=[]) (fun i hi=>hi) (fun i hi=>by simp at hi),fun κc S=>?_⟩
    rcases (R.blk id _ hid0).2 with e | ⟨hsp,C,t,fr,hw,hfr,hκ,hrr⟩
    ·subst e;simp at hrow
    ·obtain ⟨g1,g2⟩:=relHRs_get hrr hrow
     have hk0:∀ b p,κ b=some (.key (id,p))→κc b=some .imm:=fun b p hb=>S.lent id (List.mem_cons_self ..) b p hb
     refine ⟨(m id).block,(m id).off+r*k,C,t,fr,by rw[hx];simp[cellOff,Nat.add_assoc],hw,hk0 _ _ hκ,?_⟩
     have hrel:relRow w κ (some (id,[])) (0+r) 0 row C ((m id).off+r*k):=relRow_mk fun j v hv=>by
      obtain ⟨u,hu,hr⟩:=relHRow_get g2 hv
      exact ⟨u,hu,hr⟩
     exact toRoRow_rel S.imm row (some (id,[])) _ _ 0 0 C _ (fun q b hb=>hk0 b _ hb) hrel
   | frz=>simp only at hk
   | muts k'=>exact absurd rfl (hmd0 k')
   | muta ks=>simp only at hk
   | mv=>simp only at hk
   | «mut»=>simp only at hk
  ·exact hk.elim
 | tt=>exact same _ hk fun κc _=>hv
 | ff=>exact same _ hk fun κc _=>hv
 | und=>exact same _ hk fun κc _=>trivial
 | int k i=>exact same _ hk fun κc _=>hv
 | bool b=>exact same _ hk fun κc _=>hv
 | str b=>exact same _ hk fun κc _=>hv
 | nilp=>exact same _ hk fun κc _=>hv
 | nili=>exact same _ hk fun κc _=>hv
 | nils=>exact same _ hk fun κc _=>hv
 | ifc=>exact same _ hk fun κc _=>hv
 | ro k rows=>exact same (.ro k rows) hk fun κc hI=>relV_move (κ':=κc) (L':=liveV w κ m n h) (fun b hb=>⟨hI b hb,rfl⟩) (fun _ _ h=>h) (.ro k rows) none none u .none_ hv
 | rp row c=>exact same (.rp row c) hk fun κc hI=>relV_move (κ':=κc) (L':=liveV w κ m n h) (fun b hb=>⟨hI b hb,rfl⟩) (fun _ _ h=>h) (.rp row c) none none u .none_ hv
 | ow k rows=>exact hk.elim
 | pb row=>exact hk.elim
 | agg l=>exact hk.elim
 | tup l=>exact hk.elim
 | fn f c=>exact hk.elim
def EntI (v:AV) (md:CMode) (u:Value) (p:List (Nat×Nat)) (id k:Nat) (x:Value):Prop:=
 (v= .own id∧md= .muts k∧p=[]∧u=x)∨∃ (cs:List AV) (ks:List Nat) (c:Nat) (vs:List Value),v= .agg cs∧md= .muta ks∧cs[c]?=some (.own id)∧k=ks.getD c 0∧p=[(0,c)]∧u= .agg vs.toArray∧vs[c]?=some x
def CloseOk (w:World) (κ:Gh) (h1:Heap) (vis:List Nat) (N:Nat) (K:AV→Heap→List Nat→Prop) (KO:Option Key) (u:Value) (v0:AV) (md0:CMode):Prop:=
 ∃ v' h2 vis',∃ T:TL,∃ F V:List Nat,K v' h2 vis'∧Cl h1 h2 vis vis' N T F V∧(∀ κc,Spec κ κc T F V→relV w κc noL KO v' u)∧
  ∀ (p:List (Nat×Nat)) (id k:Nat) (x:Value),EntI v0 md0 u p id k x→h2 id=none∧(∃ rs hs,h1 id=some (.rows k rs hs))∧((∃ A l,x= .slice A l 0)→id∉T.map Prod.fst∧id∉F)
theorem CloseOk0.up {h1:Heap} {vis:List Nat} {N:Nat} {K:AV→Heap→List Nat→Prop} {KO:Option Key} {u:Value} (x:CloseOk0 w κ h1 vis N K KO u) {v0:AV} {md0:CMode} (hx:((∀ id,v0≠ .own id)∨∀ k,md0≠ .muts k)∧((∀ cs,v0≠ .agg cs)∨∀ ks,md0≠ .muta ks)):CloseOk w κ h1 vis N K KO u v0 md0:=by
 obtain ⟨v',h2,vis',T,F,V,a,b,c⟩:=x
 refine ⟨v',h2,vis',T,F,V,a,b,c,fun p id k l e=>?_⟩
 rcases e with ⟨e1,e2,_⟩ | ⟨cs,ks,c,vs,e1,e2,_⟩
 ·rcases hx.1 with hx | hx
  ·exact absurd e1 (hx id)
  ·exact absurd e2 (hx k)
 ·rcases hx.2 with hx | hx
  ·exact absurd e1 (hx cs)
  ·exact absurd e2 (hx ks)
theorem closeC_gone (R:Rel w κ m n s h a) {h1:Heap} (hs:Sub h1 h) {fuel:Nat} {k:Nat} {vis:List Nat} {id:Nat} {K:AV→Heap→List Nat→Prop} (hk0:closeC fuel (.muts k) h1 vis (.own id) K):closeC fuel (.muts k) h1 vis (.own id) fun v h vis=>h id=none∧K v h vis:=by
   simp only[closeC] at hk0⊢
   split at hk0
   ·rename_i k2 rs hs2 hid
    cases hb:Nat.beq k2 k with
    | false=>rw[hb] at hk0;exact hk0.elim
    | true=>
     rw[hb] at hk0
     simp only[cond_true] at hk0⊢
     obtain ⟨rs',g2,T,hk2,a1,_⟩:=closeHoles_mv R 0 fuel (upd h1 id none) vis rs hs2 id (fun x=>(0,[x])) _ (fun _=>rfl) ((sub_upd _ _).trans hs) hk0
     have mono:∀ {fuel:Nat} {h1:Heap} {vis:List Nat} {rs:List (List AV)} {holes:List Hole} {K:List (List AV)→Heap→List Nat→Prop},h1 id=none→closeHoles fuel true h1 vis rs holes K→closeHoles fuel true h1 vis rs holes fun rs h vis=>h id=none∧K rs h vis:=by
      intro fuel
      induction fuel with
      | zero=>intro h1 vis rs holes K _ hk;exact hk
      | succ fuel ih=>
       intro h1 vis rs holes K h0 hk
       cases holes with
       | nil=>exact ⟨h0,hk⟩
       | cons x holes=>
        obtain ⟨r,c,i⟩:=x
        simp only[closeHoles,cond_true] at hk⊢
        have:=ih h0 hk
        have mono2:∀ {fuel:Nat} {h1:Heap} {vis:List Nat} {rs:List (List AV)} {holes:List Hole} {K K':List (List AV)→Heap→List Nat→Prop},(∀ rs h vis,K rs h vis→K' rs h vis)→closeHoles fuel true h1 vis rs holes K→closeHoles fuel true h1 vis rs holes K':=by
         intro fuel
         induction fuel with
         | zero=>intro h1 vis rs holes K K' _ hk;exact hk
         | succ fuel ih=>
          intro h1 vis rs holes K K' hK hk
          cases holes with
          | nil=>exact hK _ _ _ hk
          | cons x holes=>
           obtain ⟨r,c,i⟩:=x
           simp only[closeHoles,cond_true] at hk⊢
           refine ih (fun rs1 h2 vis1 hk=>?_) hk
           split at hk
           ·exact ih (fun rs2 h3 vis2 hk=>hK _ _ _ hk) hk
           ·exact hK _ _ _ hk
           ·exact hk.elim
        refine mono2 (fun rs1 h2 vis1 hk=>?_) this
        obtain ⟨h0',hk⟩:=hk
        split at hk
        ·rename_i k rs2 hs2 hid
         refine ih ?_ hk
         rcases sub_upd h2 i id with e | e
         ·exact e
         ·rw[e];exact h0'
        ·exact ⟨h0',hk⟩
        ·exact hk.elim
     exact mono (upd_eq _ _ _) hk0
   ·exact hk0.elim
theorem closeC_sound (R:Rel w κ m n s h a) {h1:Heap} (hs:Sub h1 h) {fuel:Nat} {md:CMode} {vis:List Nat} {v:AV} {K:AV→Heap→List Nat→Prop} {rk:Key} {KO:Option Key} {N:Nat} (hN:rk.1 < N) (hKO:md= .ro∨KO=some rk) {u:Value} (hv:relV w κ (liveV w κ m n h) none v u) (hk:closeC fuel md h1 vis v K):CloseOk w κ h1 vis N K KO u v md:=by
 have noagg:∀ cs,v≠ .agg cs:=fun cs e=>by subst e;exact (show False from hk)
 by_cases hmd:∀ k,md≠ .muts k
 ·exact (closeC_sound0 R hs hmd hN hKO hv hk).up ⟨.inr hmd,.inl noagg⟩
 ·obtain ⟨k',hk'⟩:∃ k,md= .muts k:=by
   cases md with
   | muts k=>exact ⟨k,rfl⟩
   | _=>exact absurd (fun k=>by simp) hmd
  subst hk'
  have other:(∀ id,v≠ .own id)→closeC fuel .mv h1 vis v K→CloseOk w κ h1 vis N K KO u v (.muts k'):=fun hne hk=>(closeC_sound0 R hs (by simp) hN (.inr (hKO.resolve_left (by simp))) hv hk).up ⟨.inl hne,.inl noagg⟩
  cases v with
  | own id=>
   replace hk:=closeC_gone R hs hk
   simp only[closeC] at hk
   split at hk
   ·rename_i k rs hs2 hid
    have hid0:=hs.some hid
    cases hb:Nat.beq k k' with
    | false=>rw[hb] at hk;exact hk.elim
    | true=>
     rw[hb] at hk
     simp only[cond_true] at hk
     have hkk:=Nat.eq_of_beq_eq_true hb
     subst hkk
     by_cases h0:∃ A l,u= .slice A l 0
     ·obtain ⟨rs',h2,T,hk2,a1,a2,a3,a4,a5⟩:=closeHoles_mv R rk.1 fuel (upd h1 id none) vis rs hs2 id (fun x=>(rk.1,rk.2++[x])) _ (fun _=>rfl) ((sub_upd _ _).trans hs) hk
      have hT:id∉T.map Prod.fst:=fun hm=>by
       obtain ⟨x,hx,e⟩:=List.mem_map.1 hm
       exact (a2 x hx).1 (by rw[e];exact upd_eq _ _ _)
      refine ⟨_,h2,_,T,[],[],hk2.2,⟨a1.trans (sub_upd _ _),fun i hi=>hi,fun _ h=>by simp at h,fun x hx=>?_,fun _ h=>by simp at h,a3,fun _ h=>by simp at h⟩,fun κc S=>?_,fun p id' k2 x e=>?_⟩
      ·obtain ⟨c1,c2,c3⟩:=a2 x hx
       refine ⟨fun e=>c1 ?_,c2,fun p=>by rw[c3];exact hN⟩
       rcases sub_upd h1 id x.1 with e2 | e2
       ·exact e2
       ·rw[e2];exact e
      ·obtain ⟨A,l,rfl⟩:=h0
       obtain ⟨_,_,hl⟩:=hv
       rw[hid0] at hl
       simp only[shp] at hl
       obtain ⟨A',cap,e,hl2,_⟩:=hl
       injection e with e1 e2 e3
       have hlen:=len_of_map a4
       refine ⟨A,0,?_,?_,.inl rfl⟩
       ·rw[hlen,e2]
       ·rw[hlen];omega
      ·rcases e with ⟨e1,e2,_⟩ | ⟨_,_,_,_,e1,_⟩
       ·injection e1 with e1
        subst e1
        injection e2 with e2
        subst e2
        exact ⟨hk2.1,⟨rs,hs2,hid⟩,fun _=>⟨hT,by simp⟩⟩
       ·cases e1
     ·have hk2:closeC fuel .mv h1 vis (.own id) (fun v h vis=>h id=none∧K v h vis):=by simp only[closeC,hid];exact hk
      obtain ⟨v',h2,vis',T,F,V,b1,b2,b3⟩:=closeC_sound0 R hs (by simp) hN (.inr (hKO.resolve_left (by simp))) hv hk2
      refine ⟨v',h2,vis',T,F,V,b1.2,b2,b3,fun p id' k2 x e=>?_⟩
      rcases e with ⟨e1,e2,_,e3⟩ | ⟨_,_,_,_,e1,_⟩
      ·injection e1 with e1
       subst e1
       injection e2 with e2
       subst e2
       exact ⟨b1.1,⟨rs,hs2,hid⟩,fun ⟨A,l,e⟩=>absurd ⟨A,l,e3.trans e⟩ h0⟩
      ·cases e1
   ·exact hk.elim
  | sl id off len=>
   simp only[closeC] at hk
   split at hk<;>exact hk.elim
  | ptr id r c=>
   simp only[closeC] at hk
   split at hk<;>exact hk.elim
  | ow k rows=>exact hk.elim
  | pb row=>exact hk.elim
  | agg l=>exact hk.elim
  | tup l=>exact hk.elim
  | fn f c=>exact hk.elim
  | _=>exact other (by simp) hk
def CloseLOk (w:World) (κ:Gh) (h1:Heap) (vis:List Nat) (N:Nat) (K:List AV→Heap→List Nat→Prop) (KO:Option Key) (c:Nat) (us:List Value):Prop:=
 ∃ cs' h2 vis',∃ T:TL,∃ F V:List Nat,K cs' h2 vis'∧Cl h1 h2 vis vis' N T F V∧∀ κc,Spec κ κc T F V→relL w κc noL KO c cs' us
theorem closeCs_sound (R:Rel w κ m n s h a) {fuel:Nat} {md:CMode} {rk:Key} {KO:Option Key} {N:Nat} (hN:rk.1 < N) (hKO:md= .ro∨KO=some rk):∀ {cs:List AV} {c c':Nat} {us:List Value} {h1:Heap} {vis:List Nat} {K:List AV→Heap→List Nat→Prop},Sub h1 h→relL w κ (liveV w κ m n h) none c' cs us→closeCs fuel md h1 vis cs K→CloseLOk w κ h1 vis N K KO c us
 | [],c,c',us,h1,vis,K,hs,hv,hk=>⟨[],h1,vis,[],[],[],hk,Cl.refl _ _ _,fun κc S=>hv⟩
 | v::cs,c,c',us,h1,vis,K,hs,hv,hk=>by
  obtain ⟨u,us',rfl,h2,h3⟩:=hv
  obtain ⟨v',g1,vis1,T1,F1,V1,hk1,c1,r1,_⟩:=closeC_sound R hs (rk:=(rk.1,rk.2++[(0,c)])) (KO:=kid KO 0 c) (N:=N) hN (by
   rcases hKO with e | e
   ·exact .inl e
   ·exact .inr (by rw[e];rfl)) h2 (show closeC fuel md h1 vis v _ from hk)
  obtain ⟨cs',g2,vis2,T2,F2,V2,hk2,c2,r2⟩:=closeCs_sound R hN hKO (c:=c+1) (c1.sub.trans hs) h3 hk1
  exact ⟨_,g2,vis2,_,_,_,hk2,c1.trans c2,fun κc S=>⟨u,us',rfl,r1 κc S.left,r2 κc S.right⟩⟩
theorem closeM_sound (R:Rel w κ m n s h a) {fuel N:Nat} {rk:Key} (hN:rk.1 < N):∀ {cs:List AV} {ks:List Nat} {c c':Nat} {us:List Value} {h1:Heap} {vis:List Nat} {K:List AV→Heap→List Nat→Prop},Sub h1 h→relL w κ (liveV w κ m n h) none c' cs us→closeM fuel ks h1 vis cs K→
  ∃ cs' h2 vis',∃ T:TL,∃ F V:List Nat,K cs' h2 vis'∧Cl h1 h2 vis vis' N T F V∧(∀ κc,Spec κ κc T F V→relL w κc noL (some rk) c cs' us)∧
   ∀ (i id k:Nat) (x:Value),cs[i]?=some (.own id)→k=ks.getD i 0→us[i]?=some x→h2 id=none∧(∃ rs hs,h1 id=some (.rows k rs hs))∧((∃ A l,x= .slice A l 0)→id∉T.map Prod.fst∧id∉F)
 | [],ks,c,c',us,h1,vis,K,hs,hv,hk=>⟨[],h1,vis,[],[],[],hk,Cl.refl _ _ _,fun κc S=>hv,fun i id k x e=>by simp at e⟩
 | v::cs,ks,c,c',us,h1,vis,K,hs,hv,hk=>by
  obtain ⟨u,us',rfl,h2,h3⟩:=hv
  obtain ⟨v',g1,vis1,T1,F1,V1,hk1,c1,r1,x1⟩:=closeC_sound R hs (rk:=(rk.1,rk.2++[(0,c)])) (KO:=kid (some rk) 0 c) (N:=N) hN (.inr rfl) h2 (show closeC fuel (.muts (hdN ks)) h1 vis v _ from hk)
  obtain ⟨cs',g2,vis2,T2,F2,V2,hk2,c2,r2,x2⟩:=closeM_sound R hN (c:=c+1) (c1.sub.trans hs) h3 hk1
  refine ⟨_,g2,vis2,_,_,_,hk2,c1.trans c2,fun κc S=>⟨u,us',rfl,r1 κc S.left,r2 κc S.right⟩,fun i id k x e1 e2 e3=>?_⟩
  cases i with
  | zero=>
   have e2:k=hdN ks:=by rw[e2];cases ks<;>rfl
   simp at e1 e3
   subst e1;subst e2;subst e3
   obtain ⟨y2,y3,y4⟩:=x1 [] id _ u (.inl ⟨rfl,rfl,rfl,rfl⟩)
   have hg2:g2 id=none:=by
    rcases c2.sub id with e | e
    ·exact e
    ·rw[e];exact y2
   refine ⟨hg2,y3,fun e=>?_⟩
   obtain ⟨z1,z2⟩:=y4 e
   refine ⟨fun hm=>?_,fun hm=>?_⟩
   ·rw[List.map_append] at hm
    rcases List.mem_append.1 hm with hm | hm
    ·exact z1 hm
    ·obtain ⟨x,hx,e⟩:=List.mem_map.1 hm
     exact (c2.tk x hx).1 (by rw[e];exact y2)
   ·rcases List.mem_append.1 hm with hm | hm
    ·exact z2 hm
    ·exact (c2.fz id hm).1 y2
  | succ i=>
   obtain ⟨y2,⟨rs,hs2,y3⟩,y4⟩:=x2 i id k x (by simpa using e1) (by rw[e2];cases ks<;>simp[tlN]) (by simpa using e3)
   refine ⟨y2,⟨rs,hs2,c1.sub.some y3⟩,fun e=>?_⟩
   obtain ⟨z1,z2⟩:=y4 e
   have y1:g1 id≠none:=by rw[y3];simp
   refine ⟨fun hm=>?_,fun hm=>?_⟩
   ·rw[List.map_append] at hm
    rcases List.mem_append.1 hm with hm | hm
    ·obtain ⟨x,hx,e⟩:=List.mem_map.1 hm
     exact y1 (by rw[←e];exact (c1.tk x hx).2.1)
    ·exact z1 hm
   ·rcases List.mem_append.1 hm with hm | hm
    ·exact y1 (c1.fz id hm).2
    ·exact z2 hm
theorem closeA_sound (R:Rel w κ m n s h a) {fuel:Nat} {md:CMode} {rk:Key} {N:Nat} (hN:rk.1 < N) {v:AV} {u:Value} {h1:Heap} {vis:List Nat} {K:AV→Heap→List Nat→Prop} (hs:Sub h1 h) (hv:relV w κ (liveV w κ m n h) none v u) (hk:closeA fuel md h1 vis v K):CloseOk w κ h1 vis N K (some rk) u v md:=by
 have other:closeC fuel md h1 vis v K→CloseOk w κ h1 vis N K (some rk) u v md:=fun hk=>closeC_sound R hs hN (.inr rfl) hv hk
 cases v with
 | agg cs=>
  obtain ⟨us,hu,hr⟩:=hv
  by_cases hmd:∃ ks,md= .muta ks
  ·obtain ⟨ks,rfl⟩:=hmd
   obtain ⟨cs',h2,vis',T,F,V,hk,c1,r1,x1⟩:=closeM_sound R hN (c:=0) hs hr (show closeM fuel ks h1 vis cs _ from hk)
   refine ⟨_,h2,vis',T,F,V,hk,c1,fun κc S=>⟨us,hu,r1 κc S⟩,fun p id k x e=>?_⟩
   rcases e with ⟨e,_⟩ | ⟨cs2,ks2,c,vs,e1,e2,e3,e4,e5,e6,e7⟩
   ·cases e
   ·injection e1 with e1
    subst e1
    injection e2 with e2
    subst e2
    rw[hu] at e6
    injection e6 with e6
    have e6:=List.toArray_inj e6
    subst e6
    exact x1 c id k x e3 e4 e7
  ·have hk:closeCs fuel md h1 vis cs (fun cs h vis=>K (.agg cs) h vis):=by
    cases md<;>first | exact hk | exact absurd ⟨_,rfl⟩ hmd
   obtain ⟨cs',h2,vis',T,F,V,hk,c1,r1⟩:=closeCs_sound R hN (.inr rfl) (c:=0) hs hr hk
   refine ⟨_,h2,vis',T,F,V,hk,c1,fun κc S=>⟨us,hu,r1 κc S⟩,fun p id k x e=>?_⟩
   rcases e with ⟨e,_⟩ | ⟨cs2,ks2,c,vs,e1,e2,_⟩
   ·cases e
   ·exact absurd ⟨_,e2⟩ hmd
 | fn f cs=>
  obtain ⟨us,hu,hr⟩:=hv
  obtain ⟨cs',h2,vis',T,F,V,hk,c1,r1⟩:=closeCs_sound R (KO:=none) hN (.inl rfl) (c:=0) hs hr (show closeCs fuel .ro h1 vis cs _ from hk)
  refine ⟨_,h2,vis',T,F,V,hk,c1,fun κc S=>⟨us,hu,r1 κc S⟩,fun p id k x e=>?_⟩
  rcases e with ⟨e,_⟩ | ⟨_,_,_,_,e,_⟩<;>cases e
 | _=>exact other hk
theorem closeAs_sound (R:Rel w κ m n s h a) {fuel:Nat} {md:CMode} {rk:Key} {N:Nat} (hN:rk.1 < N):∀ {cs:List AV} {c c':Nat} {us:List Value} {h1:Heap} {vis:List Nat} {K:List AV→Heap→List Nat→Prop},Sub h1 h→relL w κ (liveV w κ m n h) none c' cs us→closeAs fuel md h1 vis cs K→CloseLOk w κ h1 vis N K (some rk) c us
 | [],c,c',us,h1,vis,K,hs,hv,hk=>⟨[],h1,vis,[],[],[],hk,Cl.refl _ _ _,fun κc S=>hv⟩
 | v::cs,c,c',us,h1,vis,K,hs,hv,hk=>by
  obtain ⟨u,us',rfl,h2,h3⟩:=hv
  obtain ⟨v',g1,vis1,T1,F1,V1,hk1,c1,r1,_⟩:=closeA_sound R (rk:=(rk.1,rk.2++[(0,c)])) (N:=N) hN hs h2 (show closeA fuel md h1 vis v _ from hk)
  obtain ⟨cs',g2,vis2,T2,F2,V2,hk2,c2,r2⟩:=closeAs_sound R hN (c:=c+1) (c1.sub.trans hs) h3 hk1
  exact ⟨_,g2,vis2,_,_,_,hk2,c1.trans c2,fun κc S=>⟨u,us',rfl,r1 κc S.left,r2 κc S.right⟩⟩
theorem closeV_sound (R:Rel w κ m n s h a) {fuel:Nat} {md:CMode} {rk:Key} {N:Nat} (hN:rk.1 < N) {v:AV} {u:Value} {h1:Heap} {vis:List Nat} {K:AV→Heap→List Nat→Prop} (hs:Sub h1 h) (hv:relV w κ (liveV w κ m n h) none v u) (hk:closeV fuel md h1 vis v K):CloseOk w κ h1 vis N K (some rk) u v md:=by
 have other:closeA fuel md h1 vis v K→CloseOk w κ h1 vis N K (some rk) u v md:=fun hk=>closeA_sound R hN hs hv hk
 cases v with
 | tup cs=>
  obtain ⟨us,hu,hr⟩:=hv
  obtain ⟨cs',h2,vis',T,F,V,hk,c1,r1⟩:=closeAs_sound R hN (c:=0) hs hr (show closeAs fuel md h1 vis cs _ from hk)
  refine ⟨_,h2,vis',T,F,V,hk,c1,fun κc S=>⟨us,hu,r1 κc S⟩,fun p id k x e=>?_⟩
  rcases e with ⟨e,_⟩ | ⟨_,_,_,_,e,_⟩<;>cases e
 | _=>exact other hk
def relA (w:World) (κ:Gh) (j:Nat) (args:List AV) (vals:List Value):Prop:=
 match args with
 | []=>vals=[]
 | v::args=>∃ u us,vals=u::us∧relV w κ noL (some (j,[])) v u∧relA w κ (j+1) args us
theorem closes_sound (R:Rel w κ m n s h a) {fuel N:Nat}:∀ {vs:List AV} {ms:List CMode} {j c:Nat} {us:List Value} {h1:Heap} {vis:List Nat} {K:List AV→Heap→List Nat→Prop},j+vs.length≤N→Sub h1 h→relL w κ (liveV w κ m n h) none c vs us→closes fuel h1 vis vs ms K→
  ∃ args h2 vis',∃ T:TL,∃ F V:List Nat,K args h2 vis'∧Cl h1 h2 vis vis' N T F V∧args.length=vs.length∧(∀ κc,Spec κ κc T F V→relA w κc j args us)∧
   ∀ (i:Nat) (v:AV) (md:CMode) (u:Value) (p:List (Nat×Nat)) (id k:Nat) (x:Value),vs[i]?=some v→ms[i]?=some md→us[i]?=some u→EntI v md u p id k x→h1 id≠none∧h2 id=none∧(∃ rs hs,h id=some (.rows k rs hs))∧((∃ A l,x= .slice A l 0)→id∉T.map Prod.fst∧id∉F)
 | [],ms,j,c,us,h1,vis,K,hN,hs,hv,hk=>⟨[],h1,vis,[],[],[],hk,Cl.refl _ _ _,rfl,fun κc S=>hv,fun i v md u p id k x e=>by simp at e⟩
 | v::vs,[],j,c,us,h1,vis,K,hN,hs,hv,hk=>(show False from hk).elim
 | v::vs,md::ms,j,c,us,h1,vis,K,hN,hs,hv,hk=>by
  obtain ⟨u,us',rfl,h2,h3⟩:=hv
  simp only[List.length_cons] at hN
  have hk0:closeV fuel md h1 vis v (fun v h vis=>closes fuel h vis vs ms fun vs h vis=>K (v::vs) h vis):=hk
  obtain ⟨v',g1,vis1,T1,F1,V1,hk1,c1,r1,x1⟩:=closeV_sound R (rk:=(j,[])) (N:=N) (by show j < N;omega) hs (by simpa [kid] using h2) hk0
  obtain ⟨args,g2,vis2,T2,F2,V2,hk2,c2,hl,r2,x2⟩:=closes_sound R (vs:=vs) (ms:=ms) (j:=j+1) (show j+1+vs.length≤N by omega) (c1.sub.trans hs) h3 hk1
  refine ⟨_,g2,vis2,_,_,_,hk2,c1.trans c2,by simp[hl],fun κc S=>⟨u,us',rfl,r1 κc S.left,r2 κc S.right⟩,fun i v0 md0 u0 p id k x e1 e2 e3 e4=>?_⟩
  cases i with
  | zero=>
   simp at e1 e2 e3
   subst e1;subst e2;subst e3
   obtain ⟨y2,⟨rs,hs2,y1⟩,y4⟩:=x1 p id k x e4
   have hg2:g2 id=none:=by
    rcases c2.sub id with e | e
    ·exact e
    ·rw[e];exact y2
   refine ⟨by rw[y1];simp,hg2,⟨rs,hs2,hs.some y1⟩,fun e=>?_⟩
   obtain ⟨z1,z2⟩:=y4 e
   refine ⟨fun hm=>?_,fun hm=>?_⟩
   ·rw[List.map_append] at hm
    rcases List.mem_append.1 hm with hm | hm
    ·exact z1 hm
    ·obtain ⟨x,hx,e⟩:=List.mem_map.1 hm
     exact (c2.tk x hx).1 (by rw[e];exact y2)
   ·rcases List.mem_append.1 hm with hm | hm
    ·exact z2 hm
    ·exact (c2.fz id hm).1 y2
  | succ i=>
   obtain ⟨y1,y2,y3,y4⟩:=x2 i v0 md0 u0 p id k x (by simpa using e1) (by simpa using e2) (by simpa using e3) e4
   have hh1:h1 id≠none:=fun e=>by
    rcases c1.sub id with e3 | e3
    ·exact y1 e3
    ·exact y1 (by rw[e3];exact e)
   refine ⟨hh1,y2,y3,fun e=>?_⟩
   obtain ⟨z1,z2⟩:=y4 e
   refine ⟨fun hm=>?_,fun hm=>?_⟩
   ·rw[List.map_append] at hm
    rcases List.mem_append.1 hm with hm | hm
    ·obtain ⟨x,hx,e⟩:=List.mem_map.1 hm
     exact y1 (by rw[←e];exact (c1.tk x hx).2.1)
    ·exact z1 hm
   ·rcases List.mem_append.1 hm with hm | hm
    ·exact y1 (c1.fz id hm).2
    ·exact z2 hm
end
end Go.Proofs.VI
end
section
set_option linter.unusedVariables false
set_option linter.unusedSimpArgs false
namespace Go.Proofs.VI
open Go
section
variable {P:Program} {w w':World} {κ κ' κc:Gh} {m m':Nat→Addr} {n n':Nat} {s:Slots} {h h':Heap} {a:Act} {L L':AV→Value→Prop} {tt:TypeId→Option TI}
def callG (κ:Gh) (T:TL) (FV:List Nat):Gh:=fun b=>match κ b with
 | some (.key K)=>(match T.find? (fun x=>x.1 == K.1) with
  | some x=>some (.key (x.2 K.2))
  | none=>if K.1∈FV then some .imm else none)
 | x=>x
theorem find_of {T:TL} (hn:(T.map Prod.fst).Nodup) {x:Nat×(List (Nat×Nat)→Key)} (hx:x∈T):T.find? (fun y=>y.1 == x.1)=some x:=by
 induction T with
 | nil=>simp at hx
 | cons y T ih=>
  rw[List.map_cons,List.nodup_cons] at hn
  rw[List.find?_cons]
  rcases List.mem_cons.1 hx with e | hx
  ·subst e;simp
  ·have:y.1≠x.1:=fun e=>hn.1 (List.mem_map.2 ⟨x,hx,e.symm⟩)
   have:(y.1 == x.1)=false:=by simpa using this
   rw[this]
   exact ih hn.2 hx
theorem find_none {T:TL} {i:Nat} (hi:i∉T.map Prod.fst):T.find? (fun y=>y.1 == i)=none:=by
 rw[List.find?_eq_none]
 intro x hx
 simpa using fun e=>hi (List.mem_map.2 ⟨x,hx,e⟩)
theorem spec_callG {T:TL} {F V:List Nat} (hn:(T.map Prod.fst).Nodup) (hF:∀ i∈F,i∉T.map Prod.fst) (hV:∀ i∈V,i∉T.map Prod.fst):Spec κ (callG κ T (F++V)) T F V where
 imm b hb:=by simp[callG,hb]
 tk x hx b p hb:=by simp only[callG,hb];rw[find_of hn hx]
 fz i hi b p hb:=by
  simp only[callG,hb]
  rw[find_none (hF i hi)]
  simp[hi]
 lent i hi b p hb:=by
  simp only[callG,hb]
  rw[find_none (hV i hi)]
  simp[hi]
theorem alive_mem:∀ {vis:List Nat},alive h vis=true→∀ i∈vis,h i≠none
 | [],_,i,hi=>by simp at hi
 | j::vis,ha,i,hi=>by
  simp only[alive] at ha
  split at ha
  ·rename_i b hb
   rcases List.mem_cons.1 hi with e | hi
   ·rw[e,hb];simp
   ·exact alive_mem ha i hi
  ·cases ha
def callRun (P:Program) (f:FuncId) (vals:Array Value) (w:World) (R:Value→World→Prop):Prop:=
 match (callFunc f vals).run P w with
 | .ok (.enter g args) w1=>Calls P g args w1 fun e w2=>∃ v,e= .returned v∧R v w2
 | .ok (.value v) w1=>R v w1
 | _=>False
def relOuts (w:World) (κ:Gh) (j:Nat) (outs:List (Option AV)) (vals:List Value):Prop:=
 match outs with
 | []=>True
 | o::outs=>match vals with
  | []=>True
  | u::us=>(match o with | some o=>relV w κ noL (some (j,[])) o u | none=>True)∧relOuts w κ (j+1) outs us
def Contract (P:Program) (f:FuncId) (args:List AV) (res:AV) (outs:List (Option AV)):Prop:=
 ∀ (κ:Gh) (w:World) (vals:List Value),(∀ b g,κ b=some g→b < w.heap.size)→(∀ b id p,κ b=some (.key (id,p))→id < args.length)→relA w κ 0 args vals→
  callRun P f vals.toArray w fun v w'=>∃ κ',relV w' κ' noL (some (args.length,[])) res v∧relOuts w' κ' 0 outs vals∧Stp κ w κ' w'∧(∀ b g,κ' b=some g→b < w'.heap.size)∧(∀ b id p,κ' b=some (.key (id,p))→id≤args.length)
theorem callRun_mono {f:FuncId} {vals:Array Value} {R R':Value→World→Prop} (hR:∀ v w',R v w'→R' v w') (hk:callRun P f vals w R):callRun P f vals w R':=by
 unfold callRun at hk⊢
 split at hk
 ·rename_i g args w1 e
  exact Calls.mono hk fun e w' ⟨v,h1,h2⟩=>⟨v,h1,hR v w' h2⟩
 ·rename_i v w1 e
  exact hR _ _ hk
 ·exact hk.elim
mutual
theorem relV_own {w w':World} {κ κ':Gh} {L L':AV→Value→Prop} (hL:∀ v u,L v u→L' v u):
  ∀ (v:AV) (K K':Option Key) (u:Value),noRo v→KeyMap w w' κ κ' K K'→relV w κ L K v u→relV w' κ' L' K' v u
 | .und,_,_,_,_,_,_=>trivial
 | .int ..,_,_,_,_,_,h=>h
 | .bool ..,_,_,_,_,_,h=>h
 | .tt,_,_,_,_,_,h=>h
 | .ff,_,_,_,_,_,h=>h
 | .str ..,_,_,_,_,_,h=>h
 | .nilp,_,_,_,_,_,h=>h
 | .nili,_,_,_,_,_,h=>h
 | .nils,_,_,_,_,_,h=>h
 | .ifc,_,_,_,_,_,h=>h
 | .own ..,_,_,_,_,_,h=>hL _ _ h
 | .sl ..,_,_,_,_,_,h=>hL _ _ h
 | .ptr ..,_,_,_,_,_,h=>hL _ _ h
 | .ro k rows,_,_,_,hn,_,h=>by
  have hn:rows=[]:=hn
  obtain ⟨A,cap,hu,hl,h⟩:=h
  exact ⟨A,cap,hu,hl,.inl hn⟩
 | .ow k rows,K,K',_,hn,hK,h=>by
  obtain ⟨A,cap,hu,hl,h⟩:=h
  refine ⟨A,cap,hu,hl,?_⟩
  rcases h with h | ⟨b,off,C,t,fr,hA,hb,hf,hk,hs,hr⟩
  ·exact .inl h
  ·exact .inr ⟨b,off,C,t,fr,hA,(hK.owns hk).2.trans hb,hf,(hK.owns hk).1,hs,relRs_own rows K K' k 0 C off hn hK hr⟩
 | .rp row c,_,_,_,hn,_,h=>hn.elim
 | .pb row,K,K',_,hn,hK,h=>by
  obtain ⟨b,off,C,t,fr,hA,hb,hf,hk,hr⟩:=h
  exact ⟨b,off,C,t,fr,hA,(hK.owns hk).2.trans hb,hf,(hK.owns hk).1,relRow_own row K K' 0 0 C off hn hK hr⟩
 | .agg cs,K,K',_,hn,hK,h=>by
  obtain ⟨vs,hu,h⟩:=h
  exact ⟨vs,hu,relL_own hL cs K K' 0 vs hn hK h⟩
 | .tup cs,K,K',_,hn,hK,h=>by
  obtain ⟨vs,hu,h⟩:=h
  exact ⟨vs,hu,relL_own hL cs K K' 0 vs hn hK h⟩
 | .fn f cs,_,_,_,hn,_,h=>hn.elim
theorem relL_own {w w':World} {κ κ':Gh} {L L':AV→Value→Prop} (hL:∀ v u,L v u→L' v u):
  ∀ (cs:List AV) (K K':Option Key) (c:Nat) (vs:List Value),noRoL cs→KeyMap w w' κ κ' K K'→relL w κ L K c cs vs→relL w' κ' L' K' c cs vs
 | [],_,_,_,_,_,_,h=>h
 | v::cs,K,K',c,_,hn,hK,h=>by
  obtain ⟨u,us,hv,h1,h2⟩:=h
  exact ⟨u,us,hv,relV_own hL v _ _ u hn.1 (hK.kid 0 c) h1,relL_own hL cs K K' (c+1) us hn.2 hK h2⟩
theorem relRow_own {w w':World} {κ κ':Gh}:
  ∀ (cs:List AV) (K K':Option Key) (r c:Nat) (C:Array Value) (o:Nat),noRoL cs→KeyMap w w' κ κ' K K'→relRow w κ K r c cs C o→relRow w' κ' K' r c cs C o
 | [],_,_,_,_,_,_,_,_,_=>trivial
 | v::cs,K,K',r,c,C,o,hn,hK,h=>by
  obtain ⟨⟨u,hu,h1⟩,h2⟩:=h
  exact ⟨⟨u,hu,relV_own (fun _ _ h=>h) v _ _ u hn.1 (hK.kid r c) h1⟩,relRow_own cs K K' r (c+1) C (o+1) hn.2 hK h2⟩
theorem relRs_own {w w':World} {κ κ':Gh}:
  ∀ (rows:List (List AV)) (K K':Option Key) (k r:Nat) (C:Array Value) (o:Nat),noRoRows rows→KeyMap w w' κ κ' K K'→relRs w κ K k r rows C o→relRs w' κ' K' k r rows C o
 | [],_,_,_,_,_,_,_,_,_=>trivial
 | row::rows,K,K',k,r,C,o,hn,hK,h=>by
  obtain ⟨h0,h1,h2⟩:=h
  exact ⟨h0,relRow_own row K K' r 0 C o hn.1 hK h1,relRs_own rows K K' k (r+1) C (o+k) hn.2 hK h2⟩
end
end
end Go.Proofs.VI
end
section
set_option linter.unusedVariables false
set_option linter.unusedSimpArgs false
namespace Go.Proofs.VI
open Go
section
variable {P:Program} {w w':World} {κ κ' κ3:Gh} {m m':Nat→Addr} {n n':Nat} {s:Slots} {h h':Heap} {a:Act} {L L':AV→Value→Prop} {tt:TypeId→Option TI}
def ReKey (w w':World) (κ κ3:Gh) (root:Key) (g:List (Nat×Nat)→Option Key):Prop:=
 ∀ q b k,κ b=some (.key (root.1,root.2++q))→g q=some k→κ3 b=some (.key k)∧w'.heap[b]?=w.heap[b]?
def RoOk (w w':World) (κ κ3:Gh) (nr:Prop):Prop:=ImmMap w w' κ κ3∨nr
structure NewOk (w:World) (κ3:Gh) (m m':Nat→Addr) (n n':Nat) (h h':Heap):Prop where
 le:n≤n'
 m_:∀ j,j < n→m' j=m j
 blk:∀ i,n≤i→i < n'→∃ B,h' i=some B∧∀ L,relBlk w κ3 m' L i B
 old:∀ i,¬ (n≤i∧i < n')→h' i=h i
theorem NewOk.refl (w:World) (κ3:Gh) (m:Nat→Addr) (n:Nat) (h:Heap):NewOk w κ3 m m n n h h:=⟨Nat.le_refl _,fun _ _=>rfl,fun i h1 h2=>by omega,fun _ _=>rfl⟩
theorem relV_ro_or {K K':Option Key} {v:AV} {u:Value} (hr:RoOk w w' κ κ3 (noRo v)) (hL:∀ v u,L v u→L' v u) (hK:KeyMap w w' κ κ3 K K') (hv:relV w κ L K v u):relV w' κ3 L' K' v u:=by
 rcases hr with hI | hn
 ·exact relV_move hI hL v K K' u hK hv
 ·exact relV_own hL v K K' u hn hK hv
theorem relHRow_or {K:Key} {id:Nat} {r:Nat} {C:Array Value} {cs:List AV} {c o:Nat} (hr:RoOk w w' κ κ3 (noRoL cs)) (hK:KeyMap w w' κ κ3 (some K) (some (id,[]))) (h:relRow w κ (some K) r c cs C o):relHRow w' κ3 L id [] r c cs C o:=by
 rcases hr with hI | hn
 ·exact relHRow_plain hI hK h
 ·have h2:=relRow_own cs (some K) (some (id,[])) r c C o hn hK h
  exact relHRow_plain (fun b hb=>⟨hb,rfl⟩) ⟨_,rfl,fun q b hb=>⟨hb,rfl⟩⟩ h2
theorem relHRs_or {K:Key} {id:Nat} {k r:Nat} {C:Array Value} {rows:List (List AV)} {o:Nat} (hr:RoOk w w' κ κ3 (noRoRows rows)) (hK:KeyMap w w' κ κ3 (some K) (some (id,[]))) (h:relRs w κ (some K) k r rows C o):relHRs w' κ3 L id [] k r rows C o:=by
 rcases hr with hI | hn
 ·exact relHRs_plain hI hK h
 ·have h2:=relRs_own rows (some K) (some (id,[])) k r C o hn hK h
  exact relHRs_plain (fun b hb=>⟨hb,rfl⟩) ⟨_,rfl,fun q b hb=>⟨hb,rfl⟩⟩ h2
theorem openC_sound {n:Nat} {h:Heap} {v:AV} {K:Nat→AV→Heap→Prop} (hk:openC n h v K):
  ∃ n' v' h',K n' v' h'∧n≤n'∧∃ g:List (Nat×Nat)→Option Key,(∀ p k,g p=some k→n≤k.1∧k.1 < n')∧
   ∀ (w w':World) (κ κ3:Gh) (m:Nat→Addr) (root:Key) (u:Value),relV w κ noL (some root) v u→RoOk w w' κ κ3 (noRo v)→ReKey w w' κ κ3 root g→
    ∃ m',NewOk w' κ3 m m' n n' h h'∧relV w' κ3 (liveV w' κ3 m' n' h') none v' u:=by
 have plain:(∀ k r,v≠ .ow k r)→(∀ r,v≠ .pb r)→(∀ r,v≠ .agg r)→(∀ r,v≠ .tup r)→K n v h→∃ n' v' h',K n' v' h'∧n≤n'∧∃ g:List (Nat×Nat)→Option Key,(∀ p k,g p=some k→n≤k.1∧k.1 < n')∧
   ∀ (w w':World) (κ κ3:Gh) (m:Nat→Addr) (root:Key) (u:Value),relV w κ noL (some root) v u→RoOk w w' κ κ3 (noRo v)→ReKey w w' κ κ3 root g→
    ∃ m',NewOk w' κ3 m m' n n' h h'∧relV w' κ3 (liveV w' κ3 m' n' h') none v' u:=fun h1 h2 h3 h4 hk=>
  ⟨n,v,h,hk,Nat.le_refl _,fun _=>none,fun p k e=>(by cases e),fun w w' κ κ3 m root u hv hr _=>
   ⟨m,NewOk.refl _ _ _ _ _,by
    have hv0:relV w κ noL none v u:=relV_simple (L:=noL) hv h1 h2 h3 h4
    exact relV_ro_or hr (fun _ _ h=>noL_le h) (K:=none) (K':=none) rfl hv0⟩⟩
 cases v with
 | ow k rs=>
  refine ⟨n+1,.own n,_,hk,Nat.le_succ _,fun q=>some (n,q),fun p k e=>(by cases e;exact ⟨Nat.le_refl _,Nat.lt_succ_self _⟩),fun w w' κ κ3 m root u hv hr hK=>?_⟩
  obtain ⟨A,cap,hu,hcap,hrest⟩:=hv
  let ad:Addr:=A.getD default
  have hmn:(fun i=>if i=n then ad else m i) n=ad:=if_pos rfl
  have hKM:KeyMap w w' κ κ3 (some root) (some (n,[])):=⟨_,rfl,fun q b hb=>by simpa using hK q b _ hb rfl⟩
  refine ⟨fun i=>if i=n then ad else m i,⟨Nat.le_succ _,fun j hj=>if_neg (by omega),fun i h1 h2=>?_,fun i hi=>upd_ne _ _ (by omega)⟩,?_⟩
  ·have:i=n:=by omega
   subst this
   refine ⟨_,upd_eq _ _ _,fun L=>?_⟩
   rcases hrest with e | ⟨b,off,C,t,fr,hA,hb,hfr,hown,hsz,hrs⟩
   ·left
    cases rs with
    | nil=>rfl
    | cons=>simp at hcap;omega
   ·right
    have had:ad=⟨b,off,none⟩:=by simp[ad,hA]
    have ho:=hKM.owns hown
    rw[hmn,had]
    exact ⟨rfl,C,t,fr,ho.2.trans hb,hfr,by simpa [owns] using ho.1,relHRs_or hr hKM hrs⟩
  ·show liveV w' κ3 (fun i=>if i=n then ad else m i) (n+1) _ (.own n) u
   refine ⟨Nat.lt_succ_self _,⟨_,_,_,hu⟩,?_⟩
   rw[upd_eq]
   refine ⟨A,cap,hu,hcap,hrest.imp (fun e=>e) fun ⟨b,off,C,t,fr,hA,hb,hfr,hown,hsz,hrs⟩=>?_⟩
   have had:ad=⟨b,off,none⟩:=by simp[ad,hA]
   have ho:=hKM.owns hown
   rw[hmn,had]
   exact ⟨hA,rfl,C,t,fr,ho.2.trans hb,hfr,by simpa [owns] using ho.1,hsz⟩
 | pb row=>
  have hk:forceL row (fun row=>K (n+1) (.ptr n 0 0) (upd h n (some (.box row [])))):=hk
  rw[forceL_eq] at hk
  refine ⟨n+1,.ptr n 0 0,_,hk,Nat.le_succ _,fun q=>some (n,q),fun p k e=>(by cases e;exact ⟨Nat.le_refl _,Nat.lt_succ_self _⟩),fun w w' κ κ3 m root u hv hr hK=>?_⟩
  obtain ⟨b,off,C,t,fr,hu,hb,hfr,hown,hrs⟩:=hv
  have hmn:(fun i=>if i=n then (⟨b,off,none⟩:Addr) else m i) n=⟨b,off,none⟩:=if_pos rfl
  have hKM:KeyMap w w' κ κ3 (some root) (some (n,[])):=⟨_,rfl,fun q b hb=>by simpa using hK q b _ hb rfl⟩
  have ho:=hKM.owns hown
  refine ⟨fun i=>if i=n then ⟨b,off,none⟩ else m i,⟨Nat.le_succ _,fun j hj=>if_neg (by omega),fun i h1 h2=>?_,fun i hi=>upd_ne _ _ (by omega)⟩,?_⟩
  ·have:i=n:=by omega
   subst this
   refine ⟨_,upd_eq _ _ _,fun L=>⟨fun x hx=>by simp at hx,by rw[hmn],C,t,fr,?_⟩⟩
   rw[hmn]
   exact ⟨ho.2.trans hb,hfr,by simpa [owns] using ho.1,relHRow_or hr hKM hrs⟩
  ·show liveV w' κ3 (fun i=>if i=n then (⟨b,off,none⟩:Addr) else m i) (n+1) _ (.ptr n 0 0) u
   refine ⟨Nat.lt_succ_self _,⟨_,hu⟩,?_⟩
   rw[upd_eq]
   show u=_
   rw[hmn]
   exact hu
 | agg r=>exact (show False from hk).elim
 | tup r=>exact (show False from hk).elim
 | _=>
  simp only[openC,force] at hk
  exact plain (by simp) (by simp) (by simp) (by simp) hk
theorem NewOk.live {w:World} {κ3:Gh} {m m':Nat→Addr} {n n':Nat} {h h':Heap} (N:NewOk w κ3 m m' n n' h h'):∀ v u,liveV w κ3 m n h v u→liveV w κ3 m' n' h' v u:=
 liveV_move N.le fun i hi=> .inr ⟨by rw[N.old i (by omega)],N.m_ i hi,fun x hx=>⟨hx,rfl⟩⟩
theorem NewOk.trans {w:World} {κ3:Gh} {m m1 m2:Nat→Addr} {n n1 n2:Nat} {h h1 h2:Heap} (x:NewOk w κ3 m m1 n n1 h h1) (y:NewOk w κ3 m1 m2 n1 n2 h1 h2):NewOk w κ3 m m2 n n2 h h2 where
 le:=Nat.le_trans x.le y.le
 m_ j hj:=(y.m_ j (Nat.lt_of_lt_of_le hj x.le)).trans (x.m_ j hj)
 blk i h1' h2':=by
  by_cases e:i < n1
  ·obtain ⟨B,e1,e2⟩:=x.blk i h1' e
   refine ⟨B,by rw[y.old i (by omega)];exact e1,fun L=>relBlk_move (fun b hb=>⟨hb,rfl⟩) (fun _ _ h=>h) ⟨_,rfl,fun q b hb=>⟨hb,rfl⟩⟩ (y.m_ i e) (e2 L)⟩
  ·exact y.blk i (by omega) h2'
 old i hi:=by
  by_cases e:n1≤i∧i < n2
  ·have:=x.le;have:=y.le
   exfalso;exact hi ⟨by omega,e.2⟩
  ·rw[y.old i e]
   by_cases e2:n≤i∧i < n1
   ·exfalso;have:=y.le;exact hi ⟨e2.1,by omega⟩
   ·exact x.old i e2
theorem openCs_sound:∀ {cs:List AV} {n c0:Nat} {h:Heap} {K:Nat→List AV→Heap→Prop},openCs n h cs K→
  ∃ n' cs' h',K n' cs' h'∧n≤n'∧∃ g:List (Nat×Nat)→Option Key,(∀ p k,g p=some k→(n≤k.1∧k.1 < n')∧∃ r c q,p=(r,c)::q∧c0≤c)∧
   ∀ (w w':World) (κ κ3:Gh) (m:Nat→Addr) (root:Key) (us:List Value),relL w κ noL (some root) c0 cs us→RoOk w w' κ κ3 (noRoL cs)→ReKey w w' κ κ3 root g→
    ∃ m',NewOk w' κ3 m m' n n' h h'∧relL w' κ3 (liveV w' κ3 m' n' h') none c0 cs' us
 | [],n,c0,h,K,hk=>⟨n,[],h,hk,Nat.le_refl _,fun _=>none,fun p k e=>(by cases e),fun w w' κ κ3 m root us hv hr _=>⟨m,NewOk.refl _ _ _ _ _,hv⟩⟩
 | v::cs,n,c0,h,K,hk=>by
  obtain ⟨n1,v',h1,hk1,l1,g1,a1,b1⟩:=openC_sound (show openC n h v _ from hk)
  obtain ⟨n2,cs',h2,hk2,l2,g2,a2,b2⟩:=openCs_sound (c0:=c0+1) hk1
  refine ⟨n2,v'::cs',h2,hk2,Nat.le_trans l1 l2,fun p=>(match p with | []=>none | (r,c)::q=>if c=c0 then g1 q else g2 ((r,c)::q)),fun p k e=>?_,fun w w' κ κ3 m root us hv hr hK=>?_⟩
  ·cases p with
   | nil=>cases e
   | cons x q=>
    obtain ⟨r,c⟩:=x
    simp only at e
    by_cases ec:c=c0
    ·rw[if_pos ec] at e
     have:=a1 q k e
     exact ⟨⟨this.1,by omega⟩,r,c,q,rfl,by omega⟩
    ·rw[if_neg ec] at e
     obtain ⟨e1,r',c',q',e2,e3⟩:=a2 _ k e
     cases e2
     exact ⟨⟨by omega,e1.2⟩,r,c,q,rfl,by omega⟩
  ·obtain ⟨u,us',rfl,hu,hus⟩:=hv
   obtain ⟨m1,N1,r1⟩:=b1 w w' κ κ3 m (root.1,root.2++[(0,c0)]) u hu (hr.imp (fun e=>e) fun e=>e.1) (fun q b k hb hg=>hK ((0,c0)::q) b k (by simpa [List.append_assoc] using hb) (by simp only[if_true];exact hg))
   obtain ⟨m2,N2,r2⟩:=b2 w w' κ κ3 m1 root us' hus (hr.imp (fun e=>e) fun e=>e.2) (fun q b k hb hg=>by
    obtain ⟨_,r,c,q',e2,e3⟩:=a2 _ k hg
    subst e2
    exact hK _ b k hb (by simp only;rw[if_neg (by omega)];exact hg))
   refine ⟨m2,N1.trans N2,u,us',rfl,?_,r2⟩
   exact relV_move (fun b hb=>⟨hb,rfl⟩) (N2.live) v' none none u .none_ r1
theorem openA_sound {n:Nat} {h:Heap} {v:AV} {K:Nat→AV→Heap→Prop} (hk:openA n h v K):
  ∃ n' v' h',K n' v' h'∧n≤n'∧∃ g:List (Nat×Nat)→Option Key,(∀ p k,g p=some k→n≤k.1∧k.1 < n')∧
   ∀ (w w':World) (κ κ3:Gh) (m:Nat→Addr) (root:Key) (u:Value),relV w κ noL (some root) v u→RoOk w w' κ κ3 (noRo v)→ReKey w w' κ κ3 root g→
    ∃ m',NewOk w' κ3 m m' n n' h h'∧relV w' κ3 (liveV w' κ3 m' n' h') none v' u:=by
 cases v with
 | agg cs=>
  obtain ⟨n',cs',h',hk,l,g,a1,b1⟩:=openCs_sound (c0:=0) (show openCs n h cs _ from hk)
  refine ⟨n',_,h',hk,l,g,fun p k e=>(a1 p k e).1,fun w w' κ κ3 m root u hv hr hK=>?_⟩
  obtain ⟨us,hu,hl⟩:=hv
  obtain ⟨m',N,r⟩:=b1 w w' κ κ3 m root us hl hr hK
  exact ⟨m',N,us,hu,r⟩
 | _=>exact openC_sound hk
theorem openAs_sound:∀ {cs:List AV} {n c0:Nat} {h:Heap} {K:Nat→List AV→Heap→Prop},openAs n h cs K→
  ∃ n' cs' h',K n' cs' h'∧n≤n'∧∃ g:List (Nat×Nat)→Option Key,(∀ p k,g p=some k→(n≤k.1∧k.1 < n')∧∃ r c q,p=(r,c)::q∧c0≤c)∧
   ∀ (w w':World) (κ κ3:Gh) (m:Nat→Addr) (root:Key) (us:List Value),relL w κ noL (some root) c0 cs us→RoOk w w' κ κ3 (noRoL cs)→ReKey w w' κ κ3 root g→
    ∃ m',NewOk w' κ3 m m' n n' h h'∧relL w' κ3 (liveV w' κ3 m' n' h') none c0 cs' us
 | [],n,c0,h,K,hk=>⟨n,[],h,hk,Nat.le_refl _,fun _=>none,fun p k e=>(by cases e),fun w w' κ κ3 m root us hv hr _=>⟨m,NewOk.refl _ _ _ _ _,hv⟩⟩
 | v::cs,n,c0,h,K,hk=>by
  obtain ⟨n1,v',h1,hk1,l1,g1,a1,b1⟩:=openA_sound (show openA n h v _ from hk)
  obtain ⟨n2,cs',h2,hk2,l2,g2,a2,b2⟩:=openAs_sound (c0:=c0+1) hk1
  refine ⟨n2,v'::cs',h2,hk2,Nat.le_trans l1 l2,fun p=>(match p with | []=>none | (r,c)::q=>if c=c0 then g1 q else g2 ((r,c)::q)),fun p k e=>?_,fun w w' κ κ3 m root us hv hr hK=>?_⟩
  ·cases p with
   | nil=>cases e
   | cons x q=>
    obtain ⟨r,c⟩:=x
    simp only at e
    by_cases ec:c=c0
    ·rw[if_pos ec] at e
     have:=a1 q k e
     exact ⟨⟨this.1,by omega⟩,r,c,q,rfl,by omega⟩
    ·rw[if_neg ec] at e
     obtain ⟨e1,r',c',q',e2,e3⟩:=a2 _ k e
     cases e2
     exact ⟨⟨by omega,e1.2⟩,r,c,q,rfl,by omega⟩
  ·obtain ⟨u,us',rfl,hu,hus⟩:=hv
   obtain ⟨m1,N1,r1⟩:=b1 w w' κ κ3 m (root.1,root.2++[(0,c0)]) u hu (hr.imp (fun e=>e) fun e=>e.1) (fun q b k hb hg=>hK ((0,c0)::q) b k (by simpa [List.append_assoc] using hb) (by simp only[if_true];exact hg))
   obtain ⟨m2,N2,r2⟩:=b2 w w' κ κ3 m1 root us' hus (hr.imp (fun e=>e) fun e=>e.2) (fun q b k hb hg=>by
    obtain ⟨_,r,c,q',e2,e3⟩:=a2 _ k hg
    subst e2
    exact hK _ b k hb (by simp only;rw[if_neg (by omega)];exact hg))
   refine ⟨m2,N1.trans N2,u,us',rfl,?_,r2⟩
   exact relV_move (fun b hb=>⟨hb,rfl⟩) (N2.live) v' none none u .none_ r1
theorem openV_sound {n:Nat} {h:Heap} {v:AV} {K:Nat→AV→Heap→Prop} (hk:openV n h v K):
  ∃ n' v' h',K n' v' h'∧n≤n'∧∃ g:List (Nat×Nat)→Option Key,(∀ p k,g p=some k→n≤k.1∧k.1 < n')∧
   ∀ (w w':World) (κ κ3:Gh) (m:Nat→Addr) (root:Key) (u:Value),relV w κ noL (some root) v u→RoOk w w' κ κ3 (noRo v)→ReKey w w' κ κ3 root g→
    ∃ m',NewOk w' κ3 m m' n n' h h'∧relV w' κ3 (liveV w' κ3 m' n' h') none v' u:=by
 cases v with
 | tup cs=>
  obtain ⟨n',cs',h',hk,l,g,a1,b1⟩:=openAs_sound (c0:=0) (show openAs n h cs _ from hk)
  refine ⟨n',_,h',hk,l,g,fun p k e=>(a1 p k e).1,fun w w' κ κ3 m root u hv hr hK=>?_⟩
  obtain ⟨us,hu,hl⟩:=hv
  obtain ⟨m',N,r⟩:=b1 w w' κ κ3 m root us hl hr hK
  exact ⟨m',N,us,hu,r⟩
 | _=>exact openA_sound hk
end
end Go.Proofs.VI
end
section
set_option linter.unusedVariables false
set_option linter.unusedSimpArgs false
namespace Go.Proofs.VI
open Go
section
variable {P:Program} {w w':World} {κ κ' κ3:Gh} {m m':Nat→Addr} {n n':Nat} {s:Slots} {h h':Heap} {a:Act} {L L':AV→Value→Prop} {tt:TypeId→Option TI}
theorem closeHoles_mono:∀ {fuel:Nat} {take:Bool} {h1:Heap} {vis:List Nat} {rs:List (List AV)} {holes:List Hole} {K K':List (List AV)→Heap→List Nat→Prop},(∀ rs h vis,K rs h vis→K' rs h vis)→closeHoles fuel take h1 vis rs holes K→closeHoles fuel take h1 vis rs holes K'
 | 0,_,_,_,_,_,_,_,_,hk=>(show False from hk).elim
 | fuel+1,take,h1,vis,rs,[],K,K',hK,hk=>hK _ _ _ hk
 | fuel+1,take,h1,vis,rs,⟨r,c,id⟩::holes,K,K',hK,hk=>by
  simp only[closeHoles] at hk⊢
  refine closeHoles_mono (fun rs1 h2 vis1 hk=>?_) hk
  split at hk
  ·exact closeHoles_mono (fun rs2 h3 vis2 hk=>hK _ _ _ hk) hk
  ·exact hK _ _ _ hk
  ·exact hk.elim
theorem closeHoles_heap:∀ (fuel:Nat) (h1:Heap) (vis:List Nat) (rs:List (List AV)) (holes:List Hole) (K:List (List AV)→Heap→List Nat→Prop),closeHoles fuel false h1 vis rs holes K→closeHoles fuel false h1 vis rs holes fun rs h2 vis=>h2=h1∧K rs h2 vis
 | 0,_,_,_,_,_,hk=>(show False from hk).elim
 | fuel+1,h1,vis,rs,[],K,hk=>⟨rfl,hk⟩
 | fuel+1,h1,vis,rs,⟨r,c,id⟩::holes,K,hk=>by
  simp only[closeHoles,cond_false] at hk⊢
  refine closeHoles_mono (fun rs1 h2 vis1 ⟨e,hk⟩=>?_) (closeHoles_heap fuel h1 vis rs holes _ hk)
  split at hk
  ·rename_i k rs2 hs2 hid
   exact closeHoles_mono (fun rs2 h3 vis2 ⟨e2,hk⟩=>⟨e2.trans e,hk⟩) (closeHoles_heap fuel h2 vis1 rs2 hs2 _ hk)
  ·exact ⟨e,hk⟩
  ·exact hk.elim
theorem closeC_heap {fuel:Nat} {h1:Heap} {vis:List Nat} {v:AV} {K:AV→Heap→List Nat→Prop} (hk:closeC fuel .ro h1 vis v K):closeC fuel .ro h1 vis v fun v h2 vis=>h2=h1∧K v h2 vis:=by
 cases v with
 | own id=>
  simp only[closeC] at hk⊢
  split at hk
  ·exact closeHoles_heap _ _ _ _ _ _ hk
  ·exact hk.elim
 | sl id off len=>
  simp only[closeC] at hk⊢
  split at hk
  ·exact closeHoles_heap _ _ _ _ _ _ hk
  ·exact hk.elim
 | ptr id r c=>
  simp only[closeC] at hk⊢
  split at hk
  ·refine closeHoles_mono (fun rs h3 vis2 ⟨e2,hk⟩=>?_) (closeHoles_heap _ _ _ _ _ _ hk)
   split at hk
   ·exact ⟨e2,hk⟩
   ·exact hk.elim
  ·obtain ⟨row,h1,h2⟩:=hk
   exact ⟨row,h1,trivial,h2⟩
  ·exact hk.elim
 | ow k rows=>exact hk.elim
 | pb row=>exact hk.elim
 | agg l=>exact hk.elim
 | tup l=>exact hk.elim
 | fn f c=>exact hk.elim
 | _=>exact ⟨rfl,hk⟩
theorem closeB_mono {k k':Nat} {p q:Prop} (hpq:p→q) (hk:bif Nat.beq k k' then p else False):bif Nat.beq k k' then q else False:=by
 cases hb:Nat.beq k k' with
 | false=>rw[hb] at hk;exact hk.elim
 | true=>rw[hb] at hk;exact hpq hk
theorem closeC_mono {fuel:Nat} {md:CMode} {h1:Heap} {vis:List Nat} {v:AV} {K K':AV→Heap→List Nat→Prop} (hK:∀ v h vis,K v h vis→K' v h vis) (hk:closeC fuel md h1 vis v K):closeC fuel md h1 vis v K':=by
 cases v with
 | own id=>
  simp only[closeC] at hk⊢
  split at hk
  ·cases md<;>simp only at hk⊢ <;>first
    | exact hK _ _ _ hk
    | exact closeHoles_mono (fun rs h vis hk=>hK _ _ _ hk) hk
    | exact closeB_mono (closeHoles_mono (fun rs h vis hk=>hK _ _ _ hk)) hk
  ·exact hk.elim
 | sl id off len=>
  simp only[closeC] at hk⊢
  split at hk
  ·cases md<;>simp only at hk⊢ <;>exact closeHoles_mono (fun rs h vis hk=>hK _ _ _ hk) hk
  ·exact hk.elim
 | ptr id r c=>
  simp only[closeC] at hk⊢
  split at hk
  ·cases md<;>simp only at hk⊢
   ·refine closeHoles_mono (fun rs h vis hk=>?_) hk
    split at hk
    ·exact hK _ _ _ hk
    ·exact hk.elim
   ·split at hk
    ·refine closeHoles_mono (fun rs h vis hk=>?_) hk
     split at hk
     ·exact hK _ _ _ hk
     ·exact hk.elim
    ·exact hk.elim
   ·split at hk
    ·refine closeHoles_mono (fun rs h vis hk=>?_) hk
     split at hk
     ·exact hK _ _ _ hk
     ·exact hk.elim
    ·exact hk.elim
  ·cases md<;>simp only at hk⊢
   obtain ⟨row,h1,h2⟩:=hk
   exact ⟨row,h1,hK _ _ _ h2⟩
  ·exact hk.elim
 | ow k rows=>exact hk.elim
 | pb row=>exact hk.elim
 | agg l=>exact hk.elim
 | tup l=>exact hk.elim
 | fn f c=>exact hk.elim
 | _=>exact hK _ _ _ hk
theorem closeCs_heap {fuel:Nat}:∀ {cs:List AV} {h1:Heap} {vis:List Nat} {K:List AV→Heap→List Nat→Prop},closeCs fuel .ro h1 vis cs K→closeCs fuel .ro h1 vis cs fun cs h2 vis=>h2=h1∧K cs h2 vis
 | [],h1,vis,K,hk=>⟨rfl,hk⟩
 | v::cs,h1,vis,K,hk=>by
  simp only[closeCs] at hk⊢
  refine closeC_mono (fun v h2 vis ⟨e,hk2⟩=>?_) (closeC_heap hk)
  subst e
  exact closeCs_heap hk2
theorem closeCs_mono {fuel:Nat} {md:CMode}:∀ {cs:List AV} {h1:Heap} {vis:List Nat} {K K':List AV→Heap→List Nat→Prop},(∀ v h vis,K v h vis→K' v h vis)→closeCs fuel md h1 vis cs K→closeCs fuel md h1 vis cs K'
 | [],h1,vis,K,K',hK,hk=>hK _ _ _ hk
 | v::cs,h1,vis,K,K',hK,hk=>by
  simp only[closeCs] at hk⊢
  exact closeC_mono (fun v h2 vis hk2=>closeCs_mono (fun r h vis hk=>hK _ _ _ hk) hk2) hk
theorem closeM_mono {fuel:Nat}:∀ {cs:List AV} {ks:List Nat} {h1:Heap} {vis:List Nat} {K K':List AV→Heap→List Nat→Prop},(∀ v h vis,K v h vis→K' v h vis)→closeM fuel ks h1 vis cs K→closeM fuel ks h1 vis cs K'
 | [],ks,h1,vis,K,K',hK,hk=>hK _ _ _ hk
 | v::cs,ks,h1,vis,K,K',hK,hk=>by
  simp only[closeM] at hk⊢
  exact closeC_mono (fun v h2 vis hk2=>closeM_mono (fun r h vis hk=>hK _ _ _ hk) hk2) hk
theorem closeA_mono {fuel:Nat} {md:CMode} {h1:Heap} {vis:List Nat} {v:AV} {K K':AV→Heap→List Nat→Prop} (hK:∀ v h vis,K v h vis→K' v h vis) (hk:closeA fuel md h1 vis v K):closeA fuel md h1 vis v K':=by
 cases v with
 | agg cs=>
  cases md with
  | muta ks=>exact closeM_mono (fun r h vis hk=>hK _ _ _ hk) (show closeM fuel ks h1 vis cs _ from hk)
  | _=>exact closeCs_mono (fun r h vis hk=>hK _ _ _ hk) hk
 | fn f cs=>exact closeCs_mono (fun r h vis hk=>hK _ _ _ hk) (show closeCs fuel .ro h1 vis cs _ from hk)
 | _=>simp only[closeA] at hk⊢;exact closeC_mono hK hk
theorem closeA_heap {fuel:Nat} {h1:Heap} {vis:List Nat} {v:AV} {K:AV→Heap→List Nat→Prop} (hk:closeA fuel .ro h1 vis v K):closeA fuel .ro h1 vis v fun v h2 vis=>h2=h1∧K v h2 vis:=by
 cases v with
 | agg cs=>exact closeCs_heap (show closeCs fuel .ro h1 vis cs _ from hk)
 | fn f cs=>exact closeCs_heap (show closeCs fuel .ro h1 vis cs _ from hk)
 | _=>simp only[closeA] at hk⊢;exact closeC_heap hk
theorem closeAs_mono {fuel:Nat} {md:CMode}:∀ {cs:List AV} {h1:Heap} {vis:List Nat} {K K':List AV→Heap→List Nat→Prop},(∀ v h vis,K v h vis→K' v h vis)→closeAs fuel md h1 vis cs K→closeAs fuel md h1 vis cs K'
 | [],h1,vis,K,K',hK,hk=>hK _ _ _ hk
 | v::cs,h1,vis,K,K',hK,hk=>by
  simp only[closeAs] at hk⊢
  exact closeA_mono (fun v h2 vis hk2=>closeAs_mono (fun r h vis hk=>hK _ _ _ hk) hk2) hk
theorem closeAs_heap {fuel:Nat}:∀ {cs:List AV} {h1:Heap} {vis:List Nat} {K:List AV→Heap→List Nat→Prop},closeAs fuel .ro h1 vis cs K→closeAs fuel .ro h1 vis cs fun cs h2 vis=>h2=h1∧K cs h2 vis
 | [],h1,vis,K,hk=>⟨rfl,hk⟩
 | v::cs,h1,vis,K,hk=>by
  simp only[closeAs] at hk⊢
  refine closeA_mono (fun v h2 vis ⟨e,hk2⟩=>?_) (closeA_heap hk)
  subst e
  exact closeAs_heap hk2
theorem closeV_heap {fuel:Nat} {h1:Heap} {vis:List Nat} {v:AV} {K:AV→Heap→List Nat→Prop} (hk:closeV fuel .ro h1 vis v K):closeV fuel .ro h1 vis v fun v h2 vis=>h2=h1∧K v h2 vis:=by
 cases v with
 | tup cs=>exact closeAs_heap (show closeAs fuel .ro h1 vis cs _ from hk)
 | _=>simp only[closeV] at hk⊢;exact closeA_heap hk
theorem closeV_mono {fuel:Nat} {md:CMode} {h1:Heap} {vis:List Nat} {v:AV} {K K':AV→Heap→List Nat→Prop} (hK:∀ v h vis,K v h vis→K' v h vis) (hk:closeV fuel md h1 vis v K):closeV fuel md h1 vis v K':=by
 cases v with
 | tup cs=>exact closeAs_mono (fun r h vis hk=>hK _ _ _ hk) (show closeAs fuel md h1 vis cs _ from hk)
 | _=>simp only[closeV] at hk⊢;exact closeA_mono hK hk
theorem closes_heap {fuel:Nat}:∀ {vs:List AV} {ms:List CMode} {h1:Heap} {vis:List Nat} {K:List AV→Heap→List Nat→Prop},ms.all isRo=true→closes fuel h1 vis vs ms K→closes fuel h1 vis vs ms fun a h2 vis=>h2=h1∧K a h2 vis
 | [],ms,h1,vis,K,_,hk=>⟨rfl,hk⟩
 | v::vs,[],h1,vis,K,_,hk=>(show False from hk).elim
 | v::vs,md::ms,h1,vis,K,hm,hk=>by
  simp only[List.all_cons,Bool.and_eq_true] at hm
  have hmd:md= .ro:=by cases md<;>first | rfl | (exact absurd hm.1 (by simp[isRo]))
  subst hmd
  simp only[closes] at hk⊢
  refine closeV_mono (fun v h2 vis ⟨e,hk2⟩=>?_) (closeV_heap hk)
  subst e
  exact closes_heap hm.2 hk2
structure Mu where
 j:Nat
 p:List (Nat×Nat)
 id:Nat
 blk:Blk
def EntO (v:AV) (md:CMode) (o:AV) (p:List (Nat×Nat)) (id k:Nat) (rows:List (List AV)):Prop:=
 (v= .own id∧md= .muts k∧p=[]∧o= .ow k rows)∨∃ (cs:List AV) (ks:List Nat) (c:Nat) (os:List AV),v= .agg cs∧md= .muta ks∧cs[c]?=some (.own id)∧k=ks.getD c 0∧p=[(0,c)]∧o= .agg os∧os[c]?=some (.ow k rows)
def MuOk (vs:List AV) (ms:List CMode) (outs:List (Option AV)) (j0:Nat) (x:Mu):Prop:=
 ∃ i:Nat,x.j=j0+i∧((∃ (r c:Nat) (row:List AV),x.p=[]∧x.blk= .box row []∧vs[i]?=some (.ptr x.id r c)∧ms[i]?=some .mut∧outs[i]?=some (some (.pb row)))∨
  (∃ (k:Nat) (rows:List (List AV)) (v:AV) (md:CMode) (o:AV),x.blk= .rows k rows []∧vs[i]?=some v∧ms[i]?=some md∧outs[i]?=some (some o)∧EntO v md o x.p x.id k rows))
theorem MuOk.succ {vs:List AV} {ms:List CMode} {outs:List (Option AV)} {j0:Nat} {x:Mu} {v:AV} {md:CMode} {o:Option AV} (h:MuOk vs ms outs (j0+1) x):MuOk (v::vs) (md::ms) (o::outs) j0 x:=by
 obtain ⟨i,e,h⟩:=h
 refine ⟨i+1,by omega,h.imp (fun ⟨r,c,row,a0,a1,a2,a3,a4⟩=>⟨r,c,row,a0,a1,by simpa using a2,by simpa using a3,by simpa using a4⟩) fun ⟨k,rows,v,md,o,a1,a2,a3,a4,a5⟩=>⟨k,rows,v,md,o,a1,by simpa using a2,by simpa using a3,by simpa using a4,a5⟩⟩
theorem backM_sound:∀ {ks:List Nat} {cs os:List AV} {h2:Heap} {K:Heap→Prop},backM ks h2 cs os K→
  ∃ h3,∃ M:List (Nat×Nat×Nat×List (List AV)),K h3∧(∀ x∈M,cs[x.1]?=some (.own x.2.1)∧x.2.2.1=ks.getD x.1 0∧os[x.1]?=some (.ow x.2.2.1 x.2.2.2))∧∀ i,(∃ x∈M,x.2.1=i∧h3 i=some (.rows x.2.2.1 x.2.2.2 []))∨h3 i=h2 i
 | ks,[],os,h2,K,hk=>⟨h2,[],hk,fun x hx=>by simp at hx,fun i=> .inr rfl⟩
 | ks,v::cs,os,h2,K,hk=>by
  have lift:∀ {h2:Heap},backM (tlN ks) h2 cs (tlA os) K→∃ h3,∃ M:List (Nat×Nat×Nat×List (List AV)),K h3∧(∀ x∈M,(v::cs)[x.1]?=some (.own x.2.1)∧x.2.2.1=ks.getD x.1 0∧os[x.1]?=some (.ow x.2.2.1 x.2.2.2))∧∀ i,(∃ x∈M,x.2.1=i∧h3 i=some (.rows x.2.2.1 x.2.2.2 []))∨h3 i=h2 i:=fun hk=>by
   obtain ⟨h3,M,a1,a2,a3⟩:=backM_sound hk
   refine ⟨h3,M.map (fun x=>(x.1+1,x.2)),a1,fun x hx=>?_,fun i=>?_⟩
   ·obtain ⟨y,hy,rfl⟩:=List.mem_map.1 hx
    obtain ⟨b1,b2,b3⟩:=a2 y hy
    refine ⟨by simpa using b1,?_,?_⟩
    ·rw[b2];cases ks<;>simp[tlN]
    ·cases os with
     | nil=>simp[tlA] at b3
     | cons x r=>simpa [tlA] using b3
   ·rcases a3 i with ⟨x,hx,e⟩ | e
    ·exact .inl ⟨_,List.mem_map.2 ⟨x,hx,rfl⟩,e⟩
    ·exact .inr e
  cases v with
  | own id=>
   have hkS:backS (hdN ks) h2 (.own id) (hdA os) (fun h=>backM (tlN ks) h cs (tlA os) K):=hk
   generalize ho:hdA os=o at hkS
   cases o with
   | ow k2 rows=>
    simp only[backS] at hkS
    cases hb:Nat.beq (hdN ks) k2 with
    | false=>rw[hb] at hkS;exact hkS.elim
    | true=>
     rw[hb] at hkS
     simp only[cond_true] at hkS
     have:=Nat.eq_of_beq_eq_true hb
     subst this
     obtain ⟨h3,M,a1,a2,a3⟩:=lift hkS
     refine ⟨h3,(0,id,hdN ks,rows)::M,a1,fun x hx=>?_,fun i=>?_⟩
     ·rcases List.mem_cons.1 hx with e | hx
      ·subst e
       refine ⟨rfl,by cases ks<;>rfl,?_⟩
       cases os with
       | nil=>cases ho
       | cons y r=>exact congrArg some ho
      ·exact a2 x hx
     ·rcases a3 i with ⟨x,hx,e⟩ | e
      ·exact .inl ⟨x,List.mem_cons_of_mem _ hx,e⟩
      ·by_cases ei:i=id
       ·subst ei
        rw[upd_eq] at e
        exact .inl ⟨_,List.mem_cons_self ..,rfl,e⟩
       ·rw[upd_ne _ _ ei] at e
        exact .inr e
   | _=>exact hkS.elim
  | _=>exact lift hk
theorem backs_sound:∀ {vs:List AV} {ms:List CMode} {outs:List (Option AV)} {j0:Nat} {h2:Heap} {K:Heap→Prop},backs h2 vs ms outs K→
  ∃ h3,∃ M:List Mu,K h3∧(∀ x∈M,MuOk vs ms outs j0 x)∧∀ i,(∃ x∈M,x.id=i∧h3 i=some x.blk)∨h3 i=h2 i
 | [],_,_,j0,h2,K,hk=>⟨h2,[],hk,fun x hx=>by simp at hx,fun i=> .inr rfl⟩
 | v::vs,[],outs,j0,h2,K,hk=>(show False from hk).elim
 | v::vs,md::ms,[],j0,h2,K,hk=>by cases md<;>exact hk.elim
 | v::vs,md::ms,o::outs,j0,h2,K,hk=>by
  have lift:∀ {h2:Heap},backs h2 vs ms outs K→∃ h3,∃ M:List Mu,K h3∧(∀ x∈M,MuOk (v::vs) (md::ms) (o::outs) j0 x)∧∀ i,(∃ x∈M,x.id=i∧h3 i=some x.blk)∨h3 i=h2 i:=fun hk=>by
   obtain ⟨h3,M,a1,a2,a3⟩:=backs_sound (j0:=j0+1) hk
   exact ⟨h3,M,a1,fun x hx=>(a2 x hx).succ,a3⟩
  have one:∀ (id:Nat) (b:Blk),MuOk (v::vs) (md::ms) (o::outs) j0 ⟨j0,[],id,b⟩→backs (upd h2 id (some b)) vs ms outs K→
    ∃ h3,∃ M:List Mu,K h3∧(∀ x∈M,MuOk (v::vs) (md::ms) (o::outs) j0 x)∧∀ i,(∃ x∈M,x.id=i∧h3 i=some x.blk)∨h3 i=h2 i:=fun id b hx0 hk=>by
   obtain ⟨h3,M,a1,a2,a3⟩:=lift hk
   refine ⟨h3,⟨j0,[],id,b⟩::M,a1,fun x hx=>?_,fun i=>?_⟩
   ·rcases List.mem_cons.1 hx with e | hx
    ·subst e;exact hx0
    ·exact a2 x hx
   ·rcases a3 i with ⟨x,hx,e⟩ | e
    ·exact .inl ⟨x,List.mem_cons_of_mem _ hx,e⟩
    ·by_cases ei:i=id
     ·subst ei
      rw[upd_eq] at e
      exact .inl ⟨_,List.mem_cons_self ..,rfl,e⟩
     ·rw[upd_ne _ _ ei] at e
      exact .inr e
  cases md with
  | ro=>exact lift hk
  | mv=>exact lift hk
  | frz=>exact lift hk
  | no=>exact lift hk
  | muts k=>
   cases o with
   | none=>exact (show False from hk).elim
   | some o=>
    have hkS:backS k h2 v o (fun h=>backs h vs ms outs K):=hk
    clear hk
    cases v with
    | own id=>
     cases o with
     | ow k2 rows=>
      simp only[backS] at hkS
      cases hb:Nat.beq k k2 with
      | false=>rw[hb] at hkS;exact hkS.elim
      | true=>
       rw[hb] at hkS
       simp only[cond_true] at hkS
       have:=Nat.eq_of_beq_eq_true hb
       subst this
       exact one id _ ⟨0,rfl,.inr ⟨k,rows,_,_,_,rfl,rfl,rfl,rfl,.inl ⟨rfl,rfl,rfl,rfl⟩⟩⟩ hkS
     | _=>exact hkS.elim
    | _=>exact hkS.elim
  | muta ks=>
   cases o with
   | none=>exact (show False from hk).elim
   | some o=>
    cases o with
    | agg os=>
     cases v with
     | agg cs=>
      obtain ⟨h4,M1,b1,b2,b3⟩:=backM_sound (show backM ks h2 cs os (fun h=>backs h vs ms outs K) from hk)
      obtain ⟨h3,M,a1,a2,a3⟩:=lift b1
      refine ⟨h3,M++M1.map (fun x=>⟨j0,[(0,x.1)],x.2.1,.rows x.2.2.1 x.2.2.2 []⟩),a1,fun x hx=>?_,fun i=>?_⟩
      ·rcases List.mem_append.1 hx with hx | hx
       ·exact a2 x hx
       ·obtain ⟨y,hy,rfl⟩:=List.mem_map.1 hx
        obtain ⟨c1,c2,c3⟩:=b2 y hy
        exact ⟨0,rfl,.inr ⟨y.2.2.1,y.2.2.2,_,_,_,rfl,rfl,rfl,rfl,.inr ⟨cs,ks,y.1,os,rfl,rfl,c1,c2,rfl,rfl,c3⟩⟩⟩
      ·rcases a3 i with ⟨x,hx,e⟩ | e
       ·exact .inl ⟨x,List.mem_append_left _ hx,e⟩
       ·rcases b3 i with ⟨y,hy,e2⟩ | e2
        ·exact .inl ⟨_,List.mem_append_right _ (List.mem_map.2 ⟨y,hy,rfl⟩),e2.1,e.trans e2.2⟩
        ·exact .inr (e.trans e2)
     | _=>exact (show False from hk).elim
    | _=>cases v<;>exact (show False from hk).elim
  | «mut»=>
   cases o with
   | none=>exact (show False from hk).elim
   | some o=>
    have hk:backC h2 v o (fun h=>backs h vs ms outs K):=hk
    have skip:backs h2 vs ms outs K→∃ h3,∃ M:List Mu,K h3∧(∀ x∈M,MuOk (v::vs) (.mut::ms) (some o::outs) j0 x)∧∀ i,(∃ x∈M,x.id=i∧h3 i=some x.blk)∨h3 i=h2 i:=lift
    cases v with
    | ptr id r c=>
     cases o with
     | pb row=>
      have hk:forceL row (fun row=>backs (upd h2 id (some (.box row []))) vs ms outs K):=hk
      rw[forceL_eq] at hk
      exact one id _ ⟨0,rfl,.inl ⟨r,c,row,rfl,rfl,rfl,rfl,rfl⟩⟩ hk
     | _=>exact hk.elim
    | own id=>exact hk.elim
    | agg l=>exact hk.elim
    | tup l=>exact hk.elim
    | _=>exact skip hk
end
end Go.Proofs.VI
end
